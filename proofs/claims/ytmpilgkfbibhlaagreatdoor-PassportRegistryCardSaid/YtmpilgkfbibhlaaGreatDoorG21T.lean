/-
 G21T
-/
import Derived.Test.YtmpilgkfbibhlaaGreatDoorG20T
set_option linter.unusedSimpArgs false
set_option linter.unusedVariables false
set_option maxRecDepth 100000
set_option maxHeartbeats 20000000
namespace Go.Proofs.YtmpilgkfbibhlaaGreatDoor
section
open Sx Go.RowKit Mr
theorem vI {pt k u:Nat} {vb vP:Value} {us:List Nat} (hk:k < us.length):(lj pt vb us vP).toArray.setIfInBounds (2+k) (.int .i64 (u:Int))=(lj pt vb (us.set k u) vP).toArray:=by
 rw [List.setIfInBounds_toArray]
 congr 1
 unfold lj
 simp only [List.cons_append,List.nil_append]
 rw [show 2+k=k+1+1 by omega,List.set_cons_succ,List.set_cons_succ,List.set_append_left _ _ (by simpa using hk),List.map_set]
theorem pq {pt:Nat} {vb vP v:Value} {us:List Nat} (h8:us.length=8):(lj pt vb us vP).toArray.setIfInBounds 10 v=(lj pt vb us v).toArray:=by
 rw [List.setIfInBounds_toArray]
 congr 1
 unfold lj
 rw [List.set_append_right _ _ (by simp [h8])]
 simp [h8]
def pw(X:Nat→Prop)(xs:List Value)(ps:List (ByteArray×List bR))(W:World):Prop:=xs.length=ps.length*2∧∀ (k:Nat) (p:ByteArray×List bR),ps[k]? =some p→xs[k*2]? =some (.string p.1)∧∃ ae ce,xs[k*2+1]? =some (.slice ae p.2.length ce)∧gX X ae p.2 W
theorem pw.keep {X X':Nat→Prop} {xs:List Value} {ps:List (ByteArray×List bR)} {W w2:World} (h:pw X xs ps W)(hX:∀ k,X k→X' k)(hs:W.heap.size≤w2.heap.size)(hK:∀ k,X k→k < W.heap.size→w2.heap[k]? =W.heap[k]?):pw X' xs ps w2:=
 ⟨h.1,fun k p hk=> by obtain⟨q1,ae,ce,q2,q3⟩:=h.2 k p hk;exact⟨q1,ae,ce,q2,q3.keep hX hs hK⟩⟩
theorem pw.one {X:Nat→Prop} {xs:List Value} {ps:List (ByteArray×List bR)} {W:World} (h:pw X xs ps W):∀ u∈xs,u.oneCell'=true:=fun u hu=> by
 obtain⟨j,hj⟩:=List.getElem?_of_mem hu
 have hjl:=(aB hj).1
 rw [h.1] at hjl
 obtain⟨p,hp⟩:∃ p,ps[j / 2]? =some p:=⟨ps[j / 2]'(by omega),bh (by omega)⟩
 obtain⟨q1,ae,ce,q2,-⟩:=h.2 _ p hp
 rcases Nat.mod_two_eq_zero_or_one j with c | c
 ·rw [show j / 2*2=j by omega,hj] at q1
  rw [bD q1];rfl
 ·rw [show j / 2*2+1=j by omega,hj] at q2
  rw [bD q2];rfl
theorem tu.cells {X:Nat→Prop} {pa:Option Addr} {n pc:Nat} {ps:List (ByteArray×List bR)} {W:World} (h:tu X (.slice pa n pc) ps W):∃ xs,pw X xs ps W∧(ps.length*2≠0→∃ b,pa=some ⟨b,0,none⟩∧X b∧b < W.heap.size∧∀ (j:Nat) (u:Value),xs[j]? =some u→W.cell? ⟨b,0+j,none⟩=some u):=by
 obtain⟨a,c,e1,h2⟩:=h
 cases e1
 by_cases hn:ps=[]
 ·subst hn
  exact⟨[],⟨rfl,fun k p hk=> by cases hk⟩,fun h=> absurd rfl h⟩
 ·obtain⟨b,rfl,hb1,hb2,hc⟩:=h2 hn
  have hat:∀ j,j < ps.length*2→∃ u,W.cell? ⟨b,j,none⟩=some u:=fun j hj=> by
   obtain⟨p,hp⟩:∃ p,ps[j / 2]? =some p:=⟨ps[j / 2]'(by omega),bh (by omega)⟩
   obtain⟨q1,ae,ce,q2,-⟩:=hc _ p hp
   rcases Nat.mod_two_eq_zero_or_one j with c | c
   ·rw [show j / 2*2=j by omega] at q1;exact⟨_,q1⟩
   ·rw [show j / 2*2+1=j by omega] at q2;exact⟨_,q2⟩
  have hx:∀ j u,j < ps.length*2→W.cell? ⟨b,j,none⟩=some u→((List.range (ps.length*2)).map fun j=> (W.cell? ⟨b,j,none⟩).getD (.bool false))[j]? =some u:=fun j u hj hu=> by
   rw [bX,List.getElem?_range hj]
   simp [hu]
  refine⟨(List.range (ps.length*2)).map fun j=> (W.cell? ⟨b,j,none⟩).getD (.bool false),⟨by simp,fun k p hk=> ?_⟩,fun _=> ⟨b,rfl,hb1,hb2,fun j u hj=> ?_⟩⟩
  ·obtain⟨q1,ae,ce,q2,q3⟩:=hc k p hk
   have hkl:=(aB hk).1
   exact⟨hx _ _ (by omega) q1,ae,ce,hx _ _ (by omega) q2,q3⟩
  ·have hjl:=(aB hj).1
   rw [List.length_map,List.length_range] at hjl
   obtain⟨u2,hu2⟩:=hat j hjl
   rw [hx j u2 hjl hu2] at hj
   rw [Nat.zero_add,hu2,hj]
theorem tu.of_own {X:Nat→Prop} {B:Nat} {v:Value} {xs:List Value} {ps:List (ByteArray×List bR)} {W:World} (h:W.ownsRow B 144 2 v ps.length xs)(hl:pw X xs ps W)(hX:∀ k,B≤k→X k):tu X v ps W:=by
 obtain⟨a,c,rfl⟩:=aP h
 refine⟨a,c,rfl,fun hn=> ?_⟩
 have h0:ps.length≠0:=fun e=> hn (eF e)
 have hB:=h.2
 obtain⟨b,rfl,hb,hc⟩:=eD (b:=0) h h0
 refine⟨b,rfl,hX b ?_,hb,fun k p hk=> ?_⟩
 ·rcases hB with⟨-,h3⟩ | ⟨g,cap,cur,q1,q2,-⟩
  ·exact absurd h3 h0
  ·cases q1;exact q2
 ·obtain⟨q1,ae,ce,q2,q3⟩:=hl.2 k p hk
  exact⟨hc _ _ q1,ae,ce,hc _ _ q2,q3⟩
theorem qG:(Tryz.prog.info? 144).map (fun i=> (i.zero,i.size,i.bytes))=some (some (.agg #[.string ⟨#[]⟩,.slice none 0 0]),2,40):=by kernel_rfl
theorem qH {W:World} {cs:List Value} {t:TypeId} {n:Nat}:n*2≠0→∃ p off,(some (⟨W.heap.size,0,none⟩:Addr))=some ⟨p,off,none⟩∧∀ (j:Nat) (u:Value),cs[j]? =some u→(W.alloc (.cells cs.toArray t)).cell? ⟨p,off+j,none⟩=some u:=fun _=>
 ⟨_,0,rfl,fun j u hu=> ah (au W _) (by rw [Nat.zero_add];simpa using hu)⟩
theorem zm(nm:ByteArray):∀ u∈[Value.string nm,.slice none 0 0],u.oneCell'=true:=by
 intro u hu
 simp only [List.mem_cons,List.not_mem_nil,or_false] at hu
 rcases hu with rfl | rfl <;> rfl
section
variable {w0 w W w2:World} {X:Nat→Prop} {Q:Nat} {vb vP:Value} {a:RegA}
theorem bC.setU(h:bC w0 X Q vb a vP W){k u:Nat} (hk:k < 8):bC w0 X Q vb { a with used:=a.used.set k u } vP (W.setCell ⟨Q,2+k,none⟩ (.int .i64 (u:Int))):=by
 refine⟨h.bel.setCell h.hQ _,h.hQ,?_,h.nq,by simp [h.u8],h.pk.keep (fun _ h=> h) (by simp) (fun k hk _=> Below.heap_setCell _ _ _ _ (fun e=> ?_)),h.bk⟩
 ·have h1:=bn (o:=2+k) (v:=.int .i64 (u:Int)) h.blk
  rw [vI (by rw [h.u8];exact hk)] at h1
  exact h1
 ·have e2:k=Q:=e
  subst e2
  exact h.nq hk
theorem bC.setP(h:bC w0 X Q vb a vP W){ps:List (ByteArray×List bR)} {v:Value} (hp:tu X v ps W):bC w0 X Q vb { a with ps:=ps } v (W.setCell ⟨Q,10,none⟩ v):=by
 refine⟨h.bel.setCell h.hQ _,h.hQ,?_,h.nq,h.u8,hp.keep (fun _ h=> h) (by simp) (fun k hk _=> Below.heap_setCell _ _ _ _ (fun e=> ?_)),h.bk⟩
 ·have h1:=bn (o:=10) (v:=v) h.blk
  rw [pq h.u8] at h1
  exact h1
 ·have e2:k=Q:=e
  subst e2
  exact h.nq hk
theorem bC.more(h:bC w0 X Q vb a vP W){N:Nat} (hN:Q < N):bC w0 (fun k=> X k∨N≤k) Q vb a vP W:=
 ⟨h.bel,h.hQ,h.blk,fun c=> by rcases c with c | c;exact h.nq c;omega,h.u8,h.pk.keep (fun _ h=> ax h) (bz _) (fun _ _ _=> rfl),h.bk⟩
theorem bC.setPk {X':Nat→Prop} {N PB i:Nat} {c:Nat} {xs:List Value} {p p':ByteArray×List bR} {v:Value} (h:bC w0 X' Q vb a (.slice (some ⟨PB,0,none⟩) a.ps.length c) W)(ho:W.ownsRow N 144 2 (.slice (some ⟨PB,0,none⟩) a.ps.length c) a.ps.length xs)(hN:w0.heap.size≤N)(hl:pw X' xs a.ps W)(hi:a.ps[i]? =some p)
  (hX:∀ k,N≤k→X' k) (hE:∃ ae ce,v=.slice ae p'.2.length ce∧gX X' ae p'.2 W):
  bC w0 X' Q vb { a with ps:=a.ps.set i p' } (.slice (some ⟨PB,0,none⟩) a.ps.length c) ((W.setCell ⟨PB,i*2,none⟩ (.string p'.1)).setCell ⟨PB,i*2+1,none⟩ v):=by
 have hil:=(aB hi).1
 have h2:=ho.2
 rcases h2 with⟨-,h3⟩ | ⟨g,cap,cur,q1,q2,q3,q4,q5,q6,q7⟩
 ·omega
 ·cases q1
  have e1:=bn (o:=i*2) (v:=.string p'.1) q3
  have e2:=bn (o:=i*2+1) (v:=v) e1
  have hne:∀ k,k≠PB→((W.setCell ⟨PB,i*2,none⟩ (.string p'.1)).setCell ⟨PB,i*2+1,none⟩ v).heap[k]? =W.heap[k]?:=fun k hk=> by
   rw [Below.heap_setCell _ _ _ _ hk,Below.heap_setCell _ _ _ _ hk]
  have hQ:Q≠PB:=fun e=> by
   have h9:=h.blk
   rw [e,q3] at h9
   simp at h9
  have hcl:∀ (j:Nat) (u:Value),xs[j]? =some u→W.cell? ⟨PB,j,none⟩=some u:=fun j u hj=> by
   have hjl:=(aB hj).1
   rw [← q7] at hj
   refine ah q3 ?_
   rw [List.getElem?_take] at hj
   split at hj
   ·simpa using hj
   ·cases hj
  have hent:∀ {ad:Option Addr} {es:List bR},gX X' ad es W→gX X' ad es ((W.setCell ⟨PB,i*2,none⟩ (.string p'.1)).setCell ⟨PB,i*2+1,none⟩ v):=fun {ad es} hh hn=> by
   obtain⟨b,s1,s2,s3,s4⟩:=hh hn
   have hb:b≠PB:=fun e=> by
    obtain⟨p0,hp0⟩:∃ p0,a.ps[0]? =some p0:=⟨a.ps[0]'(by omega),bh (by omega)⟩
    have c1:=hcl _ _ (hl.2 0 p0 hp0).1
    cases es with
    | nil=> exact hn rfl
    | cons y es=>
     obtain⟨⟨k1,t1,a1,b1,n1,o1⟩,y1,y2,y3,y4⟩:=y
     have c2:=s4 0 (.int .i64 k1) rfl
     rw [e] at c2
     rw [show 0*2=0 from rfl] at c1
     rw [c1] at c2
     cases c2
   refine⟨b,s1,s2,by simpa using s3,fun j u hj=> ?_⟩
   have s5:=s4 j u hj
   unfold World.cell? at s5 ⊢
   rw [hne b hb]
   exact s5
  refine⟨(h.bel.setCell (by show _≤PB;omega) _).setCell (by show _≤PB;omega) _,h.hQ,(hne Q hQ).trans h.blk,h.nq,h.u8,⟨some ⟨PB,0,none⟩,c,by rw [List.length_set],fun _=> ⟨PB,rfl,hX PB q2,by simpa using ak q3,fun k p9 hk=> ?_⟩⟩,h.bk⟩
  by_cases hki:k=i
  ·subst hki
   rw [List.getElem?_set_self hil] at hk
   obtain rfl:=bD hk
   obtain⟨ae,ce,rfl,hE2⟩:=hE
   refine⟨ah e2 ?_,ae,ce,ah e2 ?_,hent hE2⟩
   ·rw [Array.getElem?_setIfInBounds_ne (by omega),Array.getElem?_setIfInBounds_self_of_lt (by omega)]
   ·rw [Array.getElem?_setIfInBounds_self_of_lt (by simp;omega)]
  ·rw [List.getElem?_set_ne (fun e=> hki e.symm)] at hk
   obtain⟨r1,ae,ce,r2,r3⟩:=hl.2 k p9 hk
   refine⟨?_,ae,ce,?_,hent r3⟩
   ·rw [World.cell?_setCell_other _ _ _ _ (by intro e;simp only [Addr.mk.injEq] at e;omega),World.cell?_setCell_other _ _ _ _ (by intro e;simp only [Addr.mk.injEq] at e;omega)]
    exact hcl _ _ r1
   ·rw [World.cell?_setCell_other _ _ _ _ (by intro e;simp only [Addr.mk.injEq] at e;omega),World.cell?_setCell_other _ _ _ _ (by intro e;simp only [Addr.mk.injEq] at e;omega)]
    exact hcl _ _ r2
end
end
section
open Sx Go.RowKit Mr
structure nG(w0:World)(X:Nat→Prop)(Q:Nat)(vb:Value)(a:RegA)(vP:Value)(y:bR)(r P8:Nat)(c8:Array Value)(w W:World):Prop where
 rf:bC w0 X Q vb a vP W
 yb:W.heap[r]? =some (.cells (bV y).toArray 31 (0,0))
 pb:W.heap[P8]? =some (.cells c8 144 (0,0))
 kp:bP (fun k=> k=Q) w W
theorem bP.setNew {S:Nat→Prop} {w W:World} {P o:Nat} {u:Value} (h:bP S w W)(hP:w.heap.size≤P):bP S w (W.setCell ⟨P,o,none⟩ u):=
 ⟨h.os,h.tape,h.output,by simpa using h.size,fun k hk hn=> by
  rw [Below.heap_setCell _ _ _ _ (fun e=> by have e2:k=P:=e;omega)]
  exact h.block k hk hn⟩
structure ki(P2:World→Prop)(w4:World)(PB:Nat)(y:bR)(es:List bR)(nm:ByteArray)(b0 b1 bY b2 b3 bB b4:Bool)(v0 v1 vY v2 v3 vB:Value)(W:World):Prop where
 kp:bP (fun k=> k=PB) w4 W
 bel:b4=false→Below w4.heap.size w4 W
 r0:b0=true→b1=false→∃ g,v0=.slice (some ⟨g,0,none⟩) 0 0∧w4.heap.size≤g∧W.heap[g]? =some (.cells #[] 31 (0,0))
 r1:b1=true→b3=false→W.ownsRow w4.heap.size 31 10 v1 es.length (bK es)
 ry:bY=true→vY=dU y
 r2:b2=true→b3=false→∃ g,v2=.slice (some ⟨g,0,none⟩) 1 1∧w4.heap.size≤g∧W.heap[g]? =some (.cells (bV y).toArray 31 (0,0))
 r3:b3=true→b4=false→W.ownsRow w4.heap.size 31 10 v3 (es.length+1) (bK es++bV y)
 rb:bB=true→vB=.agg #[.string nm,v3]
 z:b4=true→P2 W
 n0:b0=false→b1=false
 n1:b1=false→b3=false
 nY:bY=false→b2=false
 n2:b2=false→b3=false
 n3:b3=false→bB=false
 nB:bB=false→b4=false
 hs:w4.heap.size≤W.heap.size
section
variable {w0 w w4 W w2:World} {X:Nat→Prop} {P2:World→Prop} {Q r P8:Nat} {c8:Array Value} {vb vP:Value} {a:RegA} {PB:Nat} {y:bR} {es:List bR} {nm:ByteArray} {b0 b1 bY b2 b3 bB b4:Bool} {v0 v1 vY v2 v3 vB:Value}
theorem nG.step(h:nG w0 X Q vb a vP y r P8 c8 w W)(hb:Below W.heap.size W w2):nG w0 X Q vb a vP y r P8 c8 w w2:=⟨h.rf.step hb,an h.yb hb,an h.pb hb,h.kp.step hb⟩
theorem nG.ne(h:nG w0 X Q vb a vP y r P8 c8 w W):r≠Q∧P8≠Q:=by
 refine⟨fun e=> ?_,fun e=> ?_⟩
 ·have h1:=h.yb;rw [e,h.rf.blk] at h1;simp at h1
 ·have h1:=h.pb;rw [e,h.rf.blk] at h1;simp at h1
theorem nG.setU(h:nG w0 X Q vb a vP y r P8 c8 w W){k u:Nat} (hk:k < 8):nG w0 X Q vb { a with used:=a.used.set k u } vP y r P8 c8 w (W.setCell ⟨Q,2+k,none⟩ (.int .i64 (u:Int))):=
 ⟨h.rf.setU hk,bA h.yb (fun e=> h.ne.1 e),bA h.pb (fun e=> h.ne.2 e),h.kp.set rfl⟩
theorem ki.mk0(h:ki P2 w4 PB y es nm false false bY b2 false false false v0 v1 vY v2 v3 vB W):ki P2 w4 PB y es nm true false bY b2 false false false (.slice (some ⟨W.heap.size,0,none⟩) 0 0) v1 vY v2 v3 vB (W.alloc (.cells #[] 31)):=
 ⟨h.kp.step bU,fun _=> (h.bel rfl).alloc h.hs _,(fun _ _=> ⟨_,rfl,h.hs,au W _⟩),(fun e=> by cases e),h.ry,(fun e1 e2=> by obtain⟨g,q1,q2,q3⟩:=h.r2 e1 e2;exact⟨g,q1,q2,an q3 bU⟩),(fun e=> by cases e),(fun e=> by cases e),(fun e=> by cases e),(fun e=> by cases e),h.n1,h.nY,h.n2,h.n3,h.nB,Nat.le_trans h.hs bU.size⟩
theorem ki.mkY(h:ki P2 w4 PB y es nm b0 b1 false false false false false v0 v1 vY v2 v3 vB W):ki P2 w4 PB y es nm b0 b1 true false false false false v0 v1 (dU y) v2 v3 vB W:=
 ⟨h.kp,h.bel,h.r0,h.r1,(fun _=> rfl),h.r2,h.r3,h.rb,h.z,h.n0,h.n1,(fun e=> by cases e),h.n2,h.n3,h.nB,h.hs⟩
theorem ki.mk2(h:ki P2 w4 PB y es nm b0 b1 true false false false false v0 v1 vY v2 v3 vB W):ki P2 w4 PB y es nm b0 b1 true true false false false v0 v1 vY (.slice (some ⟨W.heap.size,0,none⟩) 1 1) v3 vB (W.alloc (.cells (bV y).toArray 31)):=
 ⟨h.kp.step bU,fun _=> (h.bel rfl).alloc h.hs _,(fun e1 e2=> by obtain⟨g,q1,q2,q3⟩:=h.r0 e1 e2;exact⟨g,q1,q2,an q3 bU⟩),(fun e1 e2=> aD (h.r1 e1 e2) bU),h.ry,(fun _ _=> ⟨_,rfl,h.hs,au W _⟩),(fun e=> by cases e),(fun e=> by cases e),(fun e=> by cases e),h.n0,h.n1,(fun e=> by cases e),(fun e=> by cases e),h.n3,h.nB,Nat.le_trans h.hs bU.size⟩
theorem ki.mkB(h:ki P2 w4 PB y es nm b0 b1 bY b2 true false false v0 v1 vY v2 v3 vB W):ki P2 w4 PB y es nm b0 b1 bY b2 true true false v0 v1 vY v2 v3 (.agg #[.string nm,v3]) W:=
 ⟨h.kp,h.bel,h.r0,h.r1,h.ry,h.r2,h.r3,(fun _=> rfl),h.z,h.n0,h.n1,h.nY,h.n2,(fun e=> by cases e),(fun e=> by cases e),h.hs⟩
theorem vJ {B E sz g:Nat} (hB:B≤g)(hg:W.heap[g]? =some (.cells #[] E (0,0))):W.ownsRow B E sz (.slice (some ⟨g,0,none⟩) 0 0) 0 []:=
 ⟨by simp,ay ⟨_,_,_,rfl,hB,hg,bz _,by decide,by simp,by simp⟩⟩
theorem ki.app1 {o:Oper} {ac:Act} {K:Act→World→Prop} {QQ:Exit→Act→World→Prop} {ae:Option Addr} {ce:Nat} (hl:es.length≤100000)(hsrc:∀ W,Below w4.heap.size w4 W→es.length*10≠0→∃ p off,ae=some ⟨p,off,none⟩∧∀ (j:Nat) (u:Value),(bK es)[j]? =some u→W.cell? ⟨p,off+j,none⟩=some u)
  (h:ki P2 w4 PB y es nm true false bY b2 false false false v0 v1 vY v2 v3 vB W) (s p:Operand) (ho:o.op=.call { callee:=.builtin .append,args:=#[s,p],argTypes:=#[24,24] }) (hs:ac.eval s=v0) (hp:ac.eval p=.slice ae es.length ce)
  (hK:∀ v' W',ki P2 w4 PB y es nm true true bY b2 false false false v0 v' vY v2 v3 vB W'→K (ac.put o.dst v') W'):o.wp Tryz.prog ac W K QQ:=by
 obtain⟨i0,hi,hz0,hz1,hz2⟩:=info_parts jY
 obtain⟨g,rfl,hg1,hg2⟩:=h.r0 rfl rfl
 have hown:=vJ (sz:=10) hg1 hg2
 refine fc (P:=Tryz.prog) W s p 24 ho w4.heap.size 31 i0 _ 10 96 Tryz.underlying24 hi hz0 hz1 hz2 rfl (by decide) _ 0 [] hs hown ae es.length ce (bK es) hp (jc es) (hsrc W (h.bel rfl)) (nE es) (by unfold maxLen;omega) (by omega) h.hs fun v' W' q1 q2 q3=> hK v' W' ?_
 rw [Nat.zero_add,List.nil_append] at q1
 refine⟨h.kp.grown q2 (fun k hk hl9=> ?_),fun _=> (h.bel rfl).grown q2 h.hs (fun k hk=> ?_),(fun _ e=> by cases e),(fun _ _=> q1),h.ry,(fun e1 e2=> ?_),(fun e=> by cases e),(fun e=> by cases e),(fun e=> by cases e),(fun e=> by cases e),(fun e=> by cases e),h.nY,h.n2,h.n3,h.nB,Nat.le_trans h.hs q2.size⟩
 ·cases hk;exact absurd hl9 (by show ¬ g < _;omega)
 ·cases hk;exact hg1
 ·obtain⟨g2,e3,e4,e5⟩:=h.r2 e1 e2
  refine⟨g2,e3,e4,(q2.block g2 (ak e5) (fun c=> ?_)).trans e5⟩
  cases c
  rw [hg2] at e5
  have h9:=congrArg (fun o=> match o with | some (Obj.cells c _ _)=> c.size | _=> 0) e5
  simp [dD] at h9
theorem ki.app2 {o:Oper} {ac:Act} {K:Act→World→Prop} {QQ:Exit→Act→World→Prop} (hl:es.length≤100000)
  (h:ki P2 w4 PB y es nm b0 true bY true false false false v0 v1 vY v2 v3 vB W) (s p:Operand) (ho:o.op=.call { callee:=.builtin .append,args:=#[s,p],argTypes:=#[24,24] }) (hs:ac.eval s=v1) (hp:ac.eval p=v2)
  (hK:∀ v' W',ki P2 w4 PB y es nm b0 true bY true true false false v0 v1 vY v2 v' vB W'→K (ac.put o.dst v') W'):o.wp Tryz.prog ac W K QQ:=by
 obtain⟨i0,hi,hz0,hz1,hz2⟩:=info_parts jY
 obtain⟨g,rfl,hg1,hg2⟩:=h.r2 rfl rfl
 have hown:=h.r1 rfl rfl
 refine fc (P:=Tryz.prog) W s p 24 ho w4.heap.size 31 i0 _ 10 96 Tryz.underlying24 hi hz0 hz1 hz2 rfl (by decide) v1 es.length (bK es) hs hown (some ⟨g,0,none⟩) 1 1 (bV y) hp (by rw [dD]) (fun _=> ⟨g,0,rfl,fun j u hu=> ah hg2 (by rw [Nat.zero_add];simpa using hu)⟩) (kH y) (by unfold maxLen;omega) (by omega) h.hs fun v' W' q1 q2 q3=> hK v' W' ?_
 refine⟨h.kp.grown q2 (fun k hk hl9=> by have:=(World.ownsRow.lt hown k hk).1;omega),fun _=> (h.bel rfl).grown q2 h.hs (fun k hk=> (World.ownsRow.lt hown k hk).1),(fun _ e=> by cases e),(fun _ e=> by cases e),h.ry,(fun _ e=> by cases e),(fun _ _=> q1),(fun e=> by cases e),(fun e=> by cases e),h.n0,(fun e=> by cases e),h.nY,(fun e=> by cases e),(fun e=> by cases e),h.nB,Nat.le_trans h.hs q2.size⟩
theorem xH {N i PB c:Nat} {X:Nat→Prop} {xs:List Value} {ps:List (ByteArray×List bR)} {p:ByteArray×List bR} (h:W.ownsRow N 144 2 (.slice (some ⟨PB,0,none⟩) ps.length c) ps.length xs)(hp:ps[i]? =some p)(hl:pw X xs ps W):∃ b9,PB=b9∧(∃ cur,W.heap[b9]? =some (.cells cur 144 (0,0)))∧W.cell? ⟨b9,i*2,none⟩=some (.string p.1)∧∃ u,W.cell? ⟨b9,i*2+1,none⟩=some u:=by
 have hn:ps.length≠0:=fun e=> by have:=(aB hp).1;omega
 have h2:=h.2
 obtain⟨b9,e9,-,hc⟩:=eD (b:=0) h hn
 cases e9
 obtain⟨r1,ae,ce,r2,-⟩:=hl.2 i p hp
 refine⟨_,rfl,?_,hc _ _ r1,_,hc _ _ r2⟩
 rcases h2 with⟨e1,e2⟩ | ⟨g,cap,cur,q1,q2,q3,-⟩
 ·exact absurd e2 hn
 ·cases q1;exact⟨cur,q3⟩
end
theorem iW {w0 w:World} {X:Nat→Prop} {Q:Nat} {vb vP:Value} {a:RegA} (h:bC w0 X Q vb a vP w)(ho:ji a)(hd:HdI a){n i:Nat} {p:ByteArray×List bR} (hp:a.ps[i]? =some p)(hn:n < a.bks.length)(hu:a.used.getD n 0 < (a.bks.getD n (0,[])).2.length)(e:bQ)(hok:eC e=true)(hsz:e.2.2.2.2.1.size≤100∧e.2.2.2.2.2.size≤100):
  Calls Tryz.prog 121 #[.pointer (some ⟨Q,0,none⟩),.int .i64 (n:Int),.int .i64 (i:Int),kZ e] w fun en w'=> en=.returned (.tuple #[])∧eZ w0 X Q vb (putA a n i e) w w':=by
 obtain⟨hb1,hb8,hbks⟩:=fW ho.sec
 obtain⟨bk,hbk⟩:∃ bk,a.bks[n]? =some bk:=⟨a.bks[n],bh hn⟩
 have hgd:a.bks.getD n (0,[])=bk:=by rw [di,hbk];rfl
 rw [hgd] at hu
 have hbd:=hbks bk (aJ hbk)
 obtain⟨pd,hpd⟩:∃ pd,bk.2[a.used.getD n 0]? =some pd:=⟨_,bh hu⟩
 have hpm:=aJ hp
 obtain⟨p1,p2,p3,p4⟩:=ho.p p hpm
 obtain⟨pa,pc,rfl⟩:=h.pslice
 obtain⟨b,rfl,hb,q1,ae,ce,q2,q3⟩:=h.pack hp
 obtain⟨ab,cb,rfl,hBk⟩:=h.books
 obtain⟨bb,ob,rfl,-⟩:=hBk (by rintro e9;rw [e9] at hn;cases hn)
 obtain⟨u,hu9⟩:∃ u,a.used.getD n 0=u:=⟨_,rfl⟩
 have hput:=j4 (n:=n) (e:=e) hp
 unfold lT at hput
 rw [hu9] at hput hpd hu
 obtain⟨y,hy⟩:∃ y,fg a.pt a.bks (headOf a.pt p.1 p.2) e n u=y:=⟨_,rfl⟩
 rw [hy] at hput
 rw [hput]
 have CR:Hid (∀ W,Below w.heap.size w W→Calls Tryz.prog 52 #[.int .u64 (a.pt:Int),.slice (some ⟨bb,ob,none⟩) a.bks.length cb,.string p.1,.slice ae p.2.length ce,kZ e,.int .i64 (n:Int),.int .i64 (u:Int)] W fun en w'=> en=.returned (dU y)∧Below W.heap.size W w'):=fun W hW=> by
  rw [← hy]
  obtain⟨ab9,cb9,e9,hB9⟩:=(h.step hW).books
  cases e9
  exact pZ a.pt bb ob ce cb n u pd p.1 bk e (q3.keep (fun _ h=> h) hW.size (fun k _ hk=> hW.block k hk)).at_ hB9 hok hsz hbk hpd hb1.2 hbd.1 (hbd.2.2 pd (aJ hpd)) ⟨by omega,by omega,by have:=hbd.2.1;omega⟩ (by have:=(bI p4).2;omega) (hd.u64 hpm)
 have hn8:n < 8:=by omega
 have hn0:(0:Int)≤n:=by omega
 have hn8i:(n:Int) < 8:=by omega
 have hi9:=(aB hp).1
 have hi0:(0:Int)≤i:=by omega
 have hi1:(i:Int) < a.ps.length:=by omega
 have hu5:(u:Int)≤5000:=by have:=hbd.2.1;omega
 have hu0:(0:Int)≤u:=by omega
 have hps:a.ps.length≤100000:=by have:=ho.np;omega
 have H:=aa h
 have HP:=aa hp
 have HES:=aa (show p.2.length≤100000 by omega)
 have HPS:=aa hps
 have HU:=aa hu9
 have c0:w.cell? ⟨Q,0,none⟩=some (.int .u64 (a.pt:Int)):=ah (o:=0) h.blk rfl
 have c1:w.cell? ⟨Q,1,none⟩=some (.slice (some ⟨bb,ob,none⟩) a.bks.length cb):=ah (o:=1) h.blk rfl
 have c2:w.cell? ⟨Q,2+n,none⟩=some (.int .i64 (u:Int)):=by rw [← hu9];exact ah h.blk (iU (by rw [h.u8];exact hn8))
 have HC:=aa (ba c0 (ba c1 c2))
 obtain⟨k,t,ea,eb,nm,ot⟩:=e
 have c10:=ag h.cell10 (bU (W:=w) (o:=(.cells #[.int .i64 k,.int .i64 t,.int .i64 ea,.int .i64 eb,.string nm,.string ot] 29)))
 have cQ:Q < (w.alloc (.cells #[.int .i64 k,.int .i64 t,.int .i64 ea,.int .i64 eb,.string nm,.string ot] 29)).heap.size:=ar (ak h.blk) bU.size
 have cb9:b < (w.alloc (.cells #[.int .i64 k,.int .i64 t,.int .i64 ea,.int .i64 eb,.string nm,.string ot] 29)).heap.size:=ar hb bU.size
 have r1:=ag q1 (bU (W:=w) (o:=(.cells #[.int .i64 k,.int .i64 t,.int .i64 ea,.int .i64 eb,.string nm,.string ot] 29)))
 have r2:=ag q2 (bU (W:=w) (o:=(.cells #[.int .i64 k,.int .i64 t,.int .i64 ea,.int .i64 eb,.string nm,.string ot] 29)))
 have HE3:=aa q3
 replace CR:Hid (∀ W,Below w.heap.size w W→Calls Tryz.prog 52 #[.int .u64 (a.pt:Int),.slice (some ⟨bb,ob,none⟩) a.bks.length cb,.string p.1,.slice ae p.2.length ce,.agg #[.int .i64 k,.int .i64 t,.int .i64 ea,.int .i64 eb,.string nm,.string ot],.int .i64 (n:Int),.int .i64 (u:Int)] W fun en w'=> en=.returned (dU y)∧Below W.heap.size W w'):=CR
 change Calls Tryz.prog 121 #[.pointer (some ⟨Q,0,none⟩),.int .i64 (n:Int),.int .i64 (i:Int),.agg #[.int .i64 k,.int .i64 t,.int .i64 ea,.int .i64 eb,.string nm,.string ot]] w _
 have HX:=aa (au w (.cells #[.int .i64 k,.int .i64 t,.int .i64 ea,.int .i64 eb,.string nm,.string ot] 29))
 have HB0:=aa (bU (W:=w) (o:=(.cells #[.int .i64 k,.int .i64 t,.int .i64 ea,.int .i64 eb,.string nm,.string ot] 29)))
 clear h ho hd hp hbk hgd hu hbd hpd hpm p1 p2 p3 p4 q1 q2 q3 hBk hput hy hok hsz hb1 hb8 hbks hb hi9 hu9 c0 c1 c2 hps hn
 go_enter Tryz.func121,Tryz.ntmps121
 go_upto_region 1 with fail
 generalize w.alloc (.cells #[.int .i64 k,.int .i64 t,.int .i64 ea,.int .i64 eb,.string nm,.string ot] 29)=w0' at*
 go_upto_region 2 with fail
 have HX1:=aa (an HX.out (bU (W:=w0') (o:=.cells #[.string p.1,.slice ae p.2.length ce] 144)))
 have HP8:=aa (au w0' (.cells #[.string p.1,.slice ae p.2.length ce] 144))
 have HB1:=aa (ai HB0.out (bU (W:=w0') (o:=.cells #[.string p.1,.slice ae p.2.length ce] 144)))
 have HQL:=aa (ak H.out.blk)
 have HQW:=aa (ak H.out.blk)
 have HE3X:=HE3
 have HN8:=aa hn8
 generalize w0'.alloc (.cells #[.string p.1,.slice ae p.2.length ce] 144)=W1 at*
 generalize w0'.heap.size=P8 at*
 clear c10 cQ cb9 r1 r2 HX HB0 HE3
 refine bo 23 26 73 [(21,9),(22,74)] [(none,[]),(none,[]),(none,[]),(none,[]),(none,[]),(none,[]),(none,[]),(none,[]),(none,[]),(none,[]),(none,[]),(none,[]),(none,[]),(none,[]),(none,[]),(none,[]),(none,[]),(none,[]),(none,[]),(none,[]),(none,[]),(some 0,[]),(some 1,[0])] [(17,(.pointer (some ⟨Q,0,none⟩))),(18,(.pointer (some ⟨Q,0,none⟩))),(19,(.pointer (some ⟨Q,0,none⟩))),(20,(.int .u64 (a.pt:Int))),(21,(.pointer (some ⟨Q,0,none⟩))),(22,(.pointer (some ⟨Q,0,none⟩))),(23,(.pointer (some ⟨Q,1,none⟩))),(24,(.slice (some ⟨bb,ob,none⟩) a.bks.length cb)),(25,(.pointer (some ⟨P8,0,none⟩))),(26,(.string p.1)),(27,(.pointer (some ⟨P8,1,none⟩))),(28,(.slice ae p.2.length ce)),(29,(.agg #[.int .i64 k,.int .i64 t,.int .i64 ea,.int .i64 eb,.string nm,.string ot])),(30,(.int .i64 (n:Int))),(31,(.pointer (some ⟨Q,0,none⟩))),(32,(.int .i64 (n:Int))),(33,(.pointer (some ⟨Q,0,none⟩))),(34,(.pointer (some ⟨Q,2,none⟩))),(35,(.pointer (some ⟨Q,2+n,none⟩))),(36,(.int .i64 (u:Int))),(37,(dU y))] (fun bsE vsE W=> mL W1 y (bsE.getD 0 false) (bsE.getD 1 false) ((vsE.getD 0 undef)) W) (by kernel_rfl) (by kernel_rfl) rfl rfl (by kernel_rfl) (by rfl) ?h0 ?each ?done
 case h0=>
  intro vsE hlv
  obtain⟨v0,v1,rfl⟩:=cd hlv
  exact⟨(Below.refl _ _).drew,(fun e=> by cases e),(fun _=> rfl)⟩
 case each=>
  simp only [dp]
  refine⟨⟨17,(.pointer (some ⟨Q,0,none⟩)),rfl,by kernel_rfl,?_⟩,⟨18,(.pointer (some ⟨Q,0,none⟩)),rfl,by kernel_rfl,?_⟩,⟨19,(.pointer (some ⟨Q,0,none⟩)),rfl,by kernel_rfl,?_⟩,⟨20,(.int .u64 (a.pt:Int)),rfl,by kernel_rfl,?_⟩,⟨21,(.pointer (some ⟨Q,0,none⟩)),rfl,by kernel_rfl,?_⟩,⟨22,(.pointer (some ⟨Q,0,none⟩)),rfl,by kernel_rfl,?_⟩,⟨23,(.pointer (some ⟨Q,1,none⟩)),rfl,by kernel_rfl,?_⟩,⟨24,(.slice (some ⟨bb,ob,none⟩) a.bks.length cb),rfl,by kernel_rfl,?_⟩,⟨25,(.pointer (some ⟨P8,0,none⟩)),rfl,by kernel_rfl,?_⟩,⟨26,(.string p.1),rfl,by kernel_rfl,?_⟩,⟨27,(.pointer (some ⟨P8,1,none⟩)),rfl,by kernel_rfl,?_⟩,⟨28,(.slice ae p.2.length ce),rfl,by kernel_rfl,?_⟩,⟨29,(.agg #[.int .i64 k,.int .i64 t,.int .i64 ea,.int .i64 eb,.string nm,.string ot]),rfl,by kernel_rfl,?_⟩,⟨30,(.int .i64 (n:Int)),rfl,by kernel_rfl,?_⟩,⟨31,(.pointer (some ⟨Q,0,none⟩)),rfl,by kernel_rfl,?_⟩,⟨32,(.int .i64 (n:Int)),rfl,by kernel_rfl,?_⟩,⟨33,(.pointer (some ⟨Q,0,none⟩)),rfl,by kernel_rfl,?_⟩,⟨34,(.pointer (some ⟨Q,2,none⟩)),rfl,by kernel_rfl,?_⟩,⟨35,(.pointer (some ⟨Q,2+n,none⟩)),rfl,by kernel_rfl,?_⟩,⟨36,(.int .i64 (u:Int)),rfl,by kernel_rfl,?_⟩,⟨37,(dU y),rfl,by kernel_rfl,?q3_20⟩,ax ⟨9,rfl,?q3_21⟩,ay ⟨rfl,?q3_22⟩,trivial⟩
  case q3_20=>
   intro bsE vsE W hlb hlv hnd h
   obtain⟨b0,b1,rfl⟩:=cd hlb
   obtain⟨v0,v1,rfl⟩:=cd hlv
   replace h:mL W1 y b0 b1 (v0) W:=h
   clear hnd
   have HST:=aa h
   have hbw:=ai HB1.out h.bel;have d0:=ag HC.out.1 hbw;have d1:=ag HC.out.2.1 hbw;have d2:=ag HC.out.2.2 hbw;have dQ:=ar HQL.out hbw.size;have h8:=an HP8.out h.bel;have d8:=ah (o:=0) h8 rfl;have d9:=ah (o:=1) h8 rfl;have dl:=ak h8;have hXW:=an HX1.out h.bel;obtain⟨x0,x1,x2,x3,x4,x5⟩:=bG hXW;have xl:=ak hXW;clear hXW h8 hbw
   intro K Q hK
   simp only [az,updAll,Act.put,aU,aV,aW,aX] at hK ⊢
   go_wp2_with (go_at_call 52;refine(CR.out _ (ai HB1.out h.bel)).mono ?_;rintro e w9 ⟨rfl,hb9⟩)
   all_goals(first | exact hK _ (h.step hb9) | exact(h.step hb9))
  case q3_21=>
   intro bsE vsE W hlb hlv hnd hbk h
   obtain⟨b0,b1,rfl⟩:=cd hlb
   obtain⟨v0,v1,rfl⟩:=cd hlv
   obtain rfl:b0=false:=hbk
   replace h:mL W1 y false b1 (v0) W:=h
   clear hnd
   have HST:=aa h
   obtain rfl:=h.n rfl
   intro K Q hK
   simp only [az,updAll,Act.put,aU,aV,aW,aX] at hK ⊢
   go_wp2_with fail
   all_goals(have hm:=h.mk0)
   all_goals(first | exact hK _ _ hm | exact hm)
  case q3_22=>
   intro bsE vsE W hlb hlv hnd hbk h
   obtain⟨b0,b1,rfl⟩:=cd hlb
   obtain⟨v0,v1,rfl⟩:=cd hlv
   obtain rfl:b0=true:=hnd 0 (by simp)
   obtain rfl:b1=false:=hbk
   replace h:mL W1 y true false (v0) W:=h
   clear hnd
   have HST:=aa h
   obtain⟨r,er,hr1,hr2⟩:=h.bx rfl;subst er
   intro K Q hK
   simp only [az,updAll,Act.put,aU,aV,aW,aX] at hK ⊢
   refine wp_store_mid 31 (.tmp 9) (.tmp 37) rfl r 0 (bV y).toArray rfl rfl (by have h9:=lN hr2;simpa [dD] using h9) (by rw [gG];simp [dD]) (lI y) ?_
   exact hK _ h.put
  all_goals
   intro bsE vsE W hlb hlv hnd h
   obtain⟨b0,b1,rfl⟩:=cd hlb
   obtain⟨v0,v1,rfl⟩:=cd hlv
   replace h:mL W1 y b0 b1 (v0) W:=h
   clear hnd
   have HST:=aa h
   have hbw:=ai HB1.out h.bel;have d0:=ag HC.out.1 hbw;have d1:=ag HC.out.2.1 hbw;have d2:=ag HC.out.2.2 hbw;have dQ:=ar HQL.out hbw.size;have h8:=an HP8.out h.bel;have d8:=ah (o:=0) h8 rfl;have d9:=ah (o:=1) h8 rfl;have dl:=ak h8;have hXW:=an HX1.out h.bel;obtain⟨x0,x1,x2,x3,x4,x5⟩:=bG hXW;have xl:=ak hXW;clear hXW h8 hbw
   intro K Q hK
   simp only [az,updAll,Act.put,aU,aV,aW,aX] at hK ⊢
   go_wp2_with (fail)
   all_goals(first | exact hK _ h | exact h)
 case done=>
  intro vsE W hlv h
  obtain⟨v0,v1,rfl⟩:=cd hlv
  replace h:mL W1 y true true (v0) W:=h
  have HST:=aa h
  have HF:=aa h
  clear h HST
  simp only [az,updAll,Act.put,aU,aV,aW,aX]
  obtain⟨r,er,hr1,hr2⟩:=HF.out.bx rfl
  subst er
  have hbw:=ai HB1.out HF.out.bel
  have HE2:Hid (nG w0 X Q (.slice (some ⟨bb,ob,none⟩) a.bks.length cb) a (.slice (some ⟨b,0,none⟩) a.ps.length pc) y r P8 #[.string p.1,.slice ae p.2.length ce] w W):=⟨H.out.step hbw,hr2,an HP8.out HF.out.bel,bP.of_below hbw⟩
  clear hbw hr1 hr2 HF HC CR HX1 HP8 HB1 HQL
  go_upto_region 3 with fail
  refine bo 11 14 73 [(5,43),(10,74)] [(none,[]),(none,[]),(none,[]),(none,[]),(none,[]),(some 0,[]),(none,[0]),(none,[]),(none,[]),(none,[]),(some 1,[0])] [(38,(.pointer (some ⟨Q,0,none⟩))),(39,(.int .i64 (n:Int))),(40,(.pointer (some ⟨Q,0,none⟩))),(41,(.pointer (some ⟨Q,2,none⟩))),(42,(.pointer (some ⟨Q,2+n,none⟩))),(44,(.int .i64 ((u:Int)+1))),(45,(.pointer (some ⟨Q,0,none⟩))),(46,(.pointer (some ⟨Q,2,none⟩))),(47,(.pointer (some ⟨Q,2+n,none⟩)))] (fun bsE vsE W=> kq (fun q9 W=> nG w0 X Q (.slice (some ⟨bb,ob,none⟩) a.bks.length cb) (bif q9 then { a with used:=a.used.set n (u+1) } else a) (.slice (some ⟨b,0,none⟩) a.ps.length pc) y r P8 #[.string p.1,.slice ae p.2.length ce] w W) (.int .i64 (u:Int)) (bsE.getD 0 false) (bsE.getD 1 false) ((vsE.getD 0 undef)) W) (by kernel_rfl) (by kernel_rfl) rfl rfl (by kernel_rfl) (by rfl) ?h0 ?each ?done
  case h0=>
   intro vsE hlv
   obtain⟨v0,v1,rfl⟩:=cd hlv
   exact⟨HE2.out.step (Below.refl _ _).drew,(fun e=> by cases e),(fun _=> rfl)⟩
  case each=>
   simp only [dp]
   refine⟨⟨38,(.pointer (some ⟨Q,0,none⟩)),rfl,by kernel_rfl,?_⟩,⟨39,(.int .i64 (n:Int)),rfl,by kernel_rfl,?_⟩,⟨40,(.pointer (some ⟨Q,0,none⟩)),rfl,by kernel_rfl,?_⟩,⟨41,(.pointer (some ⟨Q,2,none⟩)),rfl,by kernel_rfl,?_⟩,⟨42,(.pointer (some ⟨Q,2+n,none⟩)),rfl,by kernel_rfl,?_⟩,ax ⟨43,rfl,?q2_5⟩,⟨44,(.int .i64 ((u:Int)+1)),rfl,by kernel_rfl,?q2_6⟩,⟨45,(.pointer (some ⟨Q,0,none⟩)),rfl,by kernel_rfl,?_⟩,⟨46,(.pointer (some ⟨Q,2,none⟩)),rfl,by kernel_rfl,?_⟩,⟨47,(.pointer (some ⟨Q,2+n,none⟩)),rfl,by kernel_rfl,?_⟩,ay ⟨rfl,?q2_10⟩,trivial⟩
   case q2_5=>
    intro bsE vsE W hlb hlv hnd hbk h
    obtain⟨b0,b1,rfl⟩:=cd hlb
    obtain⟨v0,v1,rfl⟩:=cd hlv
    obtain rfl:b0=false:=hbk
    replace h:kq (fun q9 W=> nG w0 X Q (.slice (some ⟨bb,ob,none⟩) a.bks.length cb) (bif q9 then { a with used:=a.used.set n (u+1) } else a) (.slice (some ⟨b,0,none⟩) a.ps.length pc) y r P8 #[.string p.1,.slice ae p.2.length ce] w W) (.int .i64 (u:Int)) false b1 (v0) W:=h
    clear hnd
    have HST:=aa h
    obtain rfl:=h.n rfl;have hs:nG w0 X Q (.slice (some ⟨bb,ob,none⟩) a.bks.length cb) a (.slice (some ⟨b,0,none⟩) a.ps.length pc) y r P8 #[.string p.1,.slice ae p.2.length ce] w W:=h.s;have cc:W.cell? ⟨Q,2+n,none⟩=some (.int .i64 (u:Int)):=(by rw [← HU.out];exact ah hs.rf.blk (iU (by rw [hs.rf.u8];exact HN8.out)));have lQ:=ak hs.rf.blk;have hN:kq (fun q9 W=> nG w0 X Q (.slice (some ⟨bb,ob,none⟩) a.bks.length cb) (bif q9 then { a with used:=a.used.set n (u+1) } else a) (.slice (some ⟨b,0,none⟩) a.ps.length pc) y r P8 #[.string p.1,.slice ae p.2.length ce] w W) (.int .i64 (u:Int)) true false ((.int .i64 (u:Int))) W:=⟨h.s,fun _=> rfl,(fun e=> by cases e)⟩
    intro K Q hK
    simp only [az,updAll,Act.put,aU,aV,aW,aX] at hK ⊢
    go_wp2_with fail
    all_goals(first | exact hK _ _ hN | exact hN)
   case q2_6=>
    intro bsE vsE W hlb hlv hnd h
    obtain⟨b0,b1,rfl⟩:=cd hlb
    obtain⟨v0,v1,rfl⟩:=cd hlv
    obtain rfl:b0=true:=hnd 0 (by simp)
    replace h:kq (fun q9 W=> nG w0 X Q (.slice (some ⟨bb,ob,none⟩) a.bks.length cb) (bif q9 then { a with used:=a.used.set n (u+1) } else a) (.slice (some ⟨b,0,none⟩) a.ps.length pc) y r P8 #[.string p.1,.slice ae p.2.length ce] w W) (.int .i64 (u:Int)) true b1 (v0) W:=h
    clear hnd
    have HST:=aa h
    obtain rfl:=h.v rfl
    intro K Q hK
    simp only [az,updAll,Act.put,aU,aV,aW,aX] at hK ⊢
    go_wp2_with (fail)
    all_goals(first | exact hK _ h | exact h)
   case q2_10=>
    intro bsE vsE W hlb hlv hnd hbk h
    obtain⟨b0,b1,rfl⟩:=cd hlb
    obtain⟨v0,v1,rfl⟩:=cd hlv
    obtain rfl:b0=true:=hnd 0 (by simp)
    obtain rfl:b1=false:=hbk
    replace h:kq (fun q9 W=> nG w0 X Q (.slice (some ⟨bb,ob,none⟩) a.bks.length cb) (bif q9 then { a with used:=a.used.set n (u+1) } else a) (.slice (some ⟨b,0,none⟩) a.ps.length pc) y r P8 #[.string p.1,.slice ae p.2.length ce] w W) (.int .i64 (u:Int)) true false (v0) W:=h
    clear hnd
    have HST:=aa h
    obtain rfl:=h.v rfl;have hs:nG w0 X Q (.slice (some ⟨bb,ob,none⟩) a.bks.length cb) a (.slice (some ⟨b,0,none⟩) a.ps.length pc) y r P8 #[.string p.1,.slice ae p.2.length ce] w W:=h.s;have cc:W.cell? ⟨Q,2+n,none⟩=some (.int .i64 (u:Int)):=(by rw [← HU.out];exact ah hs.rf.blk (iU (by rw [hs.rf.u8];exact HN8.out)));have lQ:=ak hs.rf.blk;have ff:=aR (o:=2+n) hs.rf.blk;have hN0:=hs.setU (k:=n) (u:=u+1) HN8.out;rw [show((u+1:Nat):Int)=(u:Int)+1 from by push_cast;rfl] at hN0;have hN:kq (fun q9 W=> nG w0 X Q (.slice (some ⟨bb,ob,none⟩) a.bks.length cb) (bif q9 then { a with used:=a.used.set n (u+1) } else a) (.slice (some ⟨b,0,none⟩) a.ps.length pc) y r P8 #[.string p.1,.slice ae p.2.length ce] w W) (.int .i64 (u:Int)) true true ((.int .i64 (u:Int))) (W.setCell ⟨Q,2+n,none⟩ (.int .i64 ((u:Int)+1))):=⟨hN0,fun _=> rfl,(fun e=> by cases e)⟩
    intro K Q hK
    simp only [az,updAll,Act.put,aU,aV,aW,aX] at hK ⊢
    go_wp2_with fail
    all_goals(first | exact hK _ hN | exact hN)
   all_goals
    intro bsE vsE W hlb hlv hnd h
    obtain⟨b0,b1,rfl⟩:=cd hlb
    obtain⟨v0,v1,rfl⟩:=cd hlv
    replace h:kq (fun q9 W=> nG w0 X Q (.slice (some ⟨bb,ob,none⟩) a.bks.length cb) (bif q9 then { a with used:=a.used.set n (u+1) } else a) (.slice (some ⟨b,0,none⟩) a.ps.length pc) y r P8 #[.string p.1,.slice ae p.2.length ce] w W) (.int .i64 (u:Int)) b0 b1 (v0) W:=h
    clear hnd
    have HST:=aa h
    skip
    intro K Q hK
    simp only [az,updAll,Act.put,aU,aV,aW,aX] at hK ⊢
    go_wp2_with (fail)
    all_goals(first | exact hK _ h | exact h)
  case done=>
   intro vsE W hlv h
   obtain⟨v0,v1,rfl⟩:=cd hlv
   replace h:kq (fun q9 W=> nG w0 X Q (.slice (some ⟨bb,ob,none⟩) a.bks.length cb) (bif q9 then { a with used:=a.used.set n (u+1) } else a) (.slice (some ⟨b,0,none⟩) a.ps.length pc) y r P8 #[.string p.1,.slice ae p.2.length ce] w W) (.int .i64 (u:Int)) true true (v0) W:=h
   have HST:=aa h
   have HE3:Hid (nG w0 X Q (.slice (some ⟨bb,ob,none⟩) a.bks.length cb) { a with used:=a.used.set n (u+1) } (.slice (some ⟨b,0,none⟩) a.ps.length pc) y r P8 #[.string p.1,.slice ae p.2.length ce] w W):=h.s
   clear h HST HE2
   simp only [az,updAll,Act.put,aU,aV,aW,aX]
   obtain⟨W3,hW3⟩:∃ W3,W3=W:=⟨_,rfl⟩
   subst hW3
   have HR3:=aa HE3.out.rf
   have HSZ:=aa HE3.out.kp.size
   obtain⟨xs,hpl,hsrc⟩:=HR3.out.pk.cells
   have HPL:Hid (pw X xs a.ps W3∧∀ W,Below W3.heap.size W3 W→a.ps.length*2≠0→∃ p off,(some (⟨b,0,none⟩:Addr))=some ⟨p,off,none⟩∧∀ (j:Nat) (u:Value),xs[j]? =some u→W.cell? ⟨p,off+j,none⟩=some u):=⟨hpl,fun W hW hn=> by obtain⟨b9,s1,-,s2,s3⟩:=hsrc hn;exact⟨b9,0,s1,fun j u hj=> ag (s3 j u hj) hW⟩⟩
   obtain⟨j0,hj0,hy0,hy1,hy2⟩:=info_parts qG
   have c10:=HR3.out.cell10
   have cQ:=ak HR3.out.blk
   clear hpl hsrc
   go_upto_region 5 with(at_builtin;have hown0:=kh (sz:=2) (E:=144) (B:=W3.heap.size) (W:=W3) (bz _);refine bM _ rfl (.tmp 49) (.tmp 53) 133 rfl W3.heap.size 144 j0 _ 2 40 Tryz.underlying133 hj0 hy0 hy1 hy2 rfl (by decide) _ 0 [] rfl hown0 (some ⟨b,0,none⟩) a.ps.length pc xs rfl HPL.out.1.1 (HPL.out.2 (W3.alloc (.cells #[] 144)) bU) HPL.out.1.one (by have:=HPS.out;unfold maxLen;omega) (by have:=HPS.out;omega) (by simp) ?_;intro v' w5 hown hgrow hat;have hO5:Hid (w5.ownsRow W3.heap.size 144 2 v' a.ps.length xs):=(by show World.ownsRow _ _ _ _ _ _ _;rw [Nat.zero_add,List.nil_append] at hown;exact hown);have HB5:Hid (Below W3.heap.size W3 w5):=(bU (W:=W3)).grown hgrow (by simp) (fun k hk=> by cases hk;exact bz _);obtain⟨a5,c5,e5⟩:=aP hO5.out;subst e5;have c10:=ag HR3.out.cell10 HB5.out;have hQ5:=an HR3.out.blk HB5.out;have cQ:=ak hQ5;have cF:=aR (o:=10) hQ5;clear hown hgrow hat hown0 hQ5)
   have hPB:∃ PB,a5=some ⟨PB,0,none⟩∧W3.heap.size≤PB:=by
    rcases hO5.out.2 with⟨e1,e2⟩ | ⟨g9,cap,cur,q1,q2,-⟩
    ·omega
    ·cases q1;exact⟨g9,rfl,q2⟩
   obtain⟨PB,e5,hPB⟩:=hPB
   subst e5
   have HWX:Hid (bC w0 (fun k=> X k∨w.heap.size≤k) Q (.slice (some ⟨bb,ob,none⟩) a.bks.length cb) { a with used:=a.used.set n (u+1) } (.slice (some ⟨PB,0,none⟩) a.ps.length c5) (w5.setCell ⟨Q,10,none⟩ (.slice (some ⟨PB,0,none⟩) a.ps.length c5))):=((HR3.out.step HB5.out).more HQW.out).setP (tu.of_own (B:=w.heap.size) (dE hO5.out HSZ.out) (HPL.out.1.keep (fun _ h=> ax h) HB5.out.size (fun k _ hk=> HB5.out.block k hk)) (fun k hk=> ay hk))
   have HOW:Hid ((w5.setCell ⟨Q,10,none⟩ (.slice (some ⟨PB,0,none⟩) a.ps.length c5)).ownsRow w.heap.size 144 2 (.slice (some ⟨PB,0,none⟩) a.ps.length c5) a.ps.length xs):=dE (dG hO5.out (an HR3.out.blk HB5.out) (by decide)) HSZ.out
   have HPL4:Hid (pw (fun k=> X k∨w.heap.size≤k) xs a.ps (w5.setCell ⟨Q,10,none⟩ (.slice (some ⟨PB,0,none⟩) a.ps.length c5))):=HPL.out.1.keep (fun _ h=> ax h) (by simpa using HB5.out.size) (fun k hk hl=> by rw [Below.heap_setCell _ _ _ _ (fun e=> by have e2:k=Q:=e;subst e2;exact HR3.out.nq hk)];exact HB5.out.block k hl)
   have HSRC0:Hid (gX X ae p.2 (w5.setCell ⟨Q,10,none⟩ (.slice (some ⟨PB,0,none⟩) a.ps.length c5))):=HE3X.out.keep (fun _ h=> h) (by have:=HSZ.out;have:=HB5.out.size;simpa using by omega) (fun k hk hl=> by have h9:k≠Q:=(fun e=> by subst e;exact HR3.out.nq hk);rw [Below.heap_setCell _ _ _ _ h9,HB5.out.block k (ar hl HSZ.out)];exact HE3.out.kp.block k hl h9)
   have HY4:=aa (bA (v:=.slice (some ⟨PB,0,none⟩) a.ps.length c5) (p:=⟨Q,10,none⟩) (an HE3.out.yb HB5.out) HE3.out.ne.1)
   have HP4:=aa (bA (v:=.slice (some ⟨PB,0,none⟩) a.ps.length c5) (p:=⟨Q,10,none⟩) (an HE3.out.pb HB5.out) HE3.out.ne.2)
   have HKP:Hid (bP (fun k=> k=Q) w (w5.setCell ⟨Q,10,none⟩ (.slice (some ⟨PB,0,none⟩) a.ps.length c5))):=(HE3.out.kp.step HB5.out).set rfl
   have HP8N:Hid (P8≠PB):=(fun e=> by have:=ak HE3.out.pb;omega)
   have HPB:Hid (w.heap.size≤PB):=Nat.le_trans HSZ.out hPB
   clear hPB c10 cQ cF HE3 hO5 HB5 HSZ HPL HR3
   generalize w5.setCell ⟨Q,10,none⟩ (.slice (some ⟨PB,0,none⟩) a.ps.length c5)=W4 at*
   have HR4:=HWX
   have HW0:=aa H.out.bel.size
   have HNE:Hid (Q≠PB∧P8≠PB):=⟨fun e=> by have:=HQW.out;have:=HPB.out;omega,HP8N.out⟩
   have HSRC:Hid (∀ W,Below W4.heap.size W4 W→p.2.length*10≠0→∃ q off,ae=some ⟨q,off,none⟩∧∀ (j:Nat) (u:Value),(bK p.2)[j]? =some u→W.cell? ⟨q,off+j,none⟩=some u):=fun W hW=> (HSRC0.out.keep (fun _ h=> h) hW.size (fun k _ hk=> hW.block k hk)).src
   clear HSRC0 HWX
   refine bo 17 18 73 [(7,64),(10,67),(11,68),(12,69),(13,70),(14,71),(16,79)] [(none,[]),(none,[]),(none,[]),(none,[]),(none,[]),(none,[]),(none,[]),(some 0,[]),(none,[]),(none,[]),(some 1,[0]),(some 2,[]),(some 3,[2]),(some 4,[1,3]),(some 5,[4]),(none,[]),(some 6,[5])] [(57,(.pointer (some ⟨Q,0,none⟩))),(58,(.pointer (some ⟨Q,0,none⟩))),(59,(.pointer (some ⟨Q,10,none⟩))),(60,(.slice (some ⟨PB,0,none⟩) a.ps.length c5)),(61,(.int .i64 (i:Int))),(62,(.pointer (some ⟨P8,0,none⟩))),(63,(.string p.1)),(65,(.pointer (some ⟨P8,1,none⟩))),(66,(.slice ae p.2.length ce)),(72,(.pointer (some ⟨PB,i*2,none⟩)))] (fun bsE vsE W=> ki (fun W=> eZ w0 X Q (.slice (some ⟨bb,ob,none⟩) a.bks.length cb) { a with used:=a.used.set n (u+1),ps:=a.ps.set i (p.1,p.2++[y]) } w W) W4 PB y p.2 p.1 (bsE.getD 0 false) (bsE.getD 1 false) (bsE.getD 2 false) (bsE.getD 3 false) (bsE.getD 4 false) (bsE.getD 5 false) (bsE.getD 6 false) ((vsE.getD 0 undef)) ((vsE.getD 1 undef)) ((vsE.getD 2 undef)) ((vsE.getD 3 undef)) ((vsE.getD 4 undef)) ((vsE.getD 5 undef)) W) (by kernel_rfl) (by kernel_rfl) rfl rfl (by kernel_rfl) (by rfl) ?h0 ?each ?done
   case h0=>
    intro vsE hlv
    obtain⟨v0,v1,v2,v3,v4,v5,v6,rfl⟩:=oy hlv
    exact⟨bP.of_below (Below.refl _ _).drew,fun _=> (Below.refl _ _).drew,(fun e=> by cases e),(fun e=> by cases e),(fun e=> by cases e),(fun e=> by cases e),(fun e=> by cases e),(fun e=> by cases e),(fun e=> by cases e),(fun _=> rfl),(fun _=> rfl),(fun _=> rfl),(fun _=> rfl),(fun _=> rfl),(fun _=> rfl),bz _⟩
   case each=>
    simp only [dp]
    refine⟨⟨57,(.pointer (some ⟨Q,0,none⟩)),rfl,by kernel_rfl,?_⟩,⟨58,(.pointer (some ⟨Q,0,none⟩)),rfl,by kernel_rfl,?_⟩,⟨59,(.pointer (some ⟨Q,10,none⟩)),rfl,by kernel_rfl,?_⟩,⟨60,(.slice (some ⟨PB,0,none⟩) a.ps.length c5),rfl,by kernel_rfl,?_⟩,⟨61,(.int .i64 (i:Int)),rfl,by kernel_rfl,?_⟩,⟨62,(.pointer (some ⟨P8,0,none⟩)),rfl,by kernel_rfl,?_⟩,⟨63,(.string p.1),rfl,by kernel_rfl,?_⟩,ax ⟨64,rfl,?q1_7⟩,⟨65,(.pointer (some ⟨P8,1,none⟩)),rfl,by kernel_rfl,?_⟩,⟨66,(.slice ae p.2.length ce),rfl,by kernel_rfl,?_⟩,ax ⟨67,rfl,?q1_10⟩,ax ⟨68,rfl,?q1_11⟩,ax ⟨69,rfl,?q1_12⟩,ax ⟨70,rfl,?q1_13⟩,ax ⟨71,rfl,?q1_14⟩,⟨72,(.pointer (some ⟨PB,i*2,none⟩)),rfl,by kernel_rfl,?_⟩,ay ⟨rfl,?q1_16⟩,trivial⟩
    case q1_7=>
     intro bsE vsE W hlb hlv hnd hbk h
     obtain⟨b0,b1,b2,b3,b4,b5,b6,rfl⟩:=oy hlb
     obtain⟨v0,v1,v2,v3,v4,v5,v6,rfl⟩:=oy hlv
     obtain rfl:b0=false:=hbk
     replace h:ki (fun W=> eZ w0 X Q (.slice (some ⟨bb,ob,none⟩) a.bks.length cb) { a with used:=a.used.set n (u+1),ps:=a.ps.set i (p.1,p.2++[y]) } w W) W4 PB y p.2 p.1 false b1 b2 b3 b4 b5 b6 (v0) (v1) (v2) (v3) (v4) (v5) W:=h
     clear hnd
     have HST:=aa h
     obtain rfl:=h.n0 rfl;obtain rfl:=h.n1 rfl;obtain rfl:=h.n3 rfl;obtain rfl:=h.nB rfl
     intro K Q hK
     simp only [az,updAll,Act.put,aU,aV,aW,aX] at hK ⊢
     go_wp2_with fail
     all_goals(have hm:=h.mk0)
     all_goals(first | exact hK _ _ hm | exact hm)
    case q1_10=>
     intro bsE vsE W hlb hlv hnd hbk h
     obtain⟨b0,b1,b2,b3,b4,b5,b6,rfl⟩:=oy hlb
     obtain⟨v0,v1,v2,v3,v4,v5,v6,rfl⟩:=oy hlv
     obtain rfl:b0=true:=hnd 0 (by simp)
     obtain rfl:b1=false:=hbk
     replace h:ki (fun W=> eZ w0 X Q (.slice (some ⟨bb,ob,none⟩) a.bks.length cb) { a with used:=a.used.set n (u+1),ps:=a.ps.set i (p.1,p.2++[y]) } w W) W4 PB y p.2 p.1 true false b2 b3 b4 b5 b6 (v0) (v1) (v2) (v3) (v4) (v5) W:=h
     clear hnd
     have HST:=aa h
     obtain rfl:=h.n1 rfl;obtain rfl:=h.n3 rfl;obtain rfl:=h.nB rfl
     intro K Q hK
     simp only [az,updAll,Act.put,aU,aV,aW,aX] at hK ⊢
     exact h.app1 HES.out HSRC.out (.tmp 64) (.tmp 66) rfl rfl rfl hK
    case q1_11=>
     intro bsE vsE W hlb hlv hnd hbk h
     obtain⟨b0,b1,b2,b3,b4,b5,b6,rfl⟩:=oy hlb
     obtain⟨v0,v1,v2,v3,v4,v5,v6,rfl⟩:=oy hlv
     obtain rfl:b2=false:=hbk
     replace h:ki (fun W=> eZ w0 X Q (.slice (some ⟨bb,ob,none⟩) a.bks.length cb) { a with used:=a.used.set n (u+1),ps:=a.ps.set i (p.1,p.2++[y]) } w W) W4 PB y p.2 p.1 b0 b1 false b3 b4 b5 b6 (v0) (v1) (v2) (v3) (v4) (v5) W:=h
     clear hnd
     have HST:=aa h
     obtain rfl:=h.nY rfl;obtain rfl:=h.n2 rfl;obtain rfl:=h.n3 rfl;obtain rfl:=h.nB rfl
     intro K Q hK
     simp only [az,updAll,Act.put,aU,aV,aW,aX] at hK ⊢
     refine wp_load_mid 31 (.tmp 9) rfl r 0 rfl (bV y) _ (fun j v hv=> ah (an HY4.out (h.bel rfl)) (by rw [Nat.zero_add];simpa using hv)) Tryz.underlying31 rfl (by rw [gG,dD]) ?_
     exact hK _ _ h.mkY
    case q1_12=>
     intro bsE vsE W hlb hlv hnd hbk h
     obtain⟨b0,b1,b2,b3,b4,b5,b6,rfl⟩:=oy hlb
     obtain⟨v0,v1,v2,v3,v4,v5,v6,rfl⟩:=oy hlv
     obtain rfl:b2=true:=hnd 2 (by simp)
     obtain rfl:b3=false:=hbk
     replace h:ki (fun W=> eZ w0 X Q (.slice (some ⟨bb,ob,none⟩) a.bks.length cb) { a with used:=a.used.set n (u+1),ps:=a.ps.set i (p.1,p.2++[y]) } w W) W4 PB y p.2 p.1 b0 b1 true false b4 b5 b6 (v0) (v1) (v2) (v3) (v4) (v5) W:=h
     clear hnd
     have HST:=aa h
     obtain rfl:=h.ry rfl;obtain rfl:=h.n2 rfl;obtain rfl:=h.n3 rfl;obtain rfl:=h.nB rfl;have hm:=h.mk2
     intro K Q hK
     simp only [az,updAll,Act.put,aU,aV,aW,aX] at hK ⊢
     clear HST h
     revert hm
     obtain⟨⟨yk,yt,ya,yb,yn,yo⟩,yy,yp,yh,yg⟩:=y
     unfold dU bV
     intro hm
     go_wp2_with fail
     all_goals(first | exact hK _ _ hm | exact hm)
    case q1_13=>
     intro bsE vsE W hlb hlv hnd hbk h
     obtain⟨b0,b1,b2,b3,b4,b5,b6,rfl⟩:=oy hlb
     obtain⟨v0,v1,v2,v3,v4,v5,v6,rfl⟩:=oy hlv
     obtain rfl:b1=true:=hnd 1 (by simp)
     obtain rfl:b3=true:=hnd 3 (by simp)
     obtain rfl:b4=false:=hbk
     replace h:ki (fun W=> eZ w0 X Q (.slice (some ⟨bb,ob,none⟩) a.bks.length cb) { a with used:=a.used.set n (u+1),ps:=a.ps.set i (p.1,p.2++[y]) } w W) W4 PB y p.2 p.1 b0 true b2 true false b5 b6 (v0) (v1) (v2) (v3) (v4) (v5) W:=h
     clear hnd
     have HST:=aa h
     obtain rfl:=h.n3 rfl;obtain rfl:=h.nB rfl
     intro K Q hK
     simp only [az,updAll,Act.put,aU,aV,aW,aX] at hK ⊢
     exact h.app2 HES.out (.tmp 67) (.tmp 69) rfl rfl rfl hK
    case q1_14=>
     intro bsE vsE W hlb hlv hnd hbk h
     obtain⟨b0,b1,b2,b3,b4,b5,b6,rfl⟩:=oy hlb
     obtain⟨v0,v1,v2,v3,v4,v5,v6,rfl⟩:=oy hlv
     obtain rfl:b4=true:=hnd 4 (by simp)
     obtain rfl:b5=false:=hbk
     replace h:ki (fun W=> eZ w0 X Q (.slice (some ⟨bb,ob,none⟩) a.bks.length cb) { a with used:=a.used.set n (u+1),ps:=a.ps.set i (p.1,p.2++[y]) } w W) W4 PB y p.2 p.1 b0 b1 b2 b3 true false b6 (v0) (v1) (v2) (v3) (v4) (v5) W:=h
     clear hnd
     have HST:=aa h
     obtain rfl:=h.nB rfl;obtain⟨a9,c9,e9⟩:=aP (h.r3 rfl rfl);subst e9
     intro K Q hK
     simp only [az,updAll,Act.put,aU,aV,aW,aX] at hK ⊢
     go_wp2_with fail
     all_goals(have hm:=h.mkB)
     all_goals(first | exact hK _ _ hm | exact hm)
    case q1_16=>
     intro bsE vsE W hlb hlv hnd hbk h
     obtain⟨b0,b1,b2,b3,b4,b5,b6,rfl⟩:=oy hlb
     obtain⟨v0,v1,v2,v3,v4,v5,v6,rfl⟩:=oy hlv
     obtain rfl:b5=true:=hnd 5 (by simp)
     obtain rfl:b6=false:=hbk
     replace h:ki (fun W=> eZ w0 X Q (.slice (some ⟨bb,ob,none⟩) a.bks.length cb) { a with used:=a.used.set n (u+1),ps:=a.ps.set i (p.1,p.2++[y]) } w W) W4 PB y p.2 p.1 b0 b1 b2 b3 b4 true false (v0) (v1) (v2) (v3) (v4) (v5) W:=h
     clear hnd
     have HST:=aa h
     obtain rfl:=h.rb rfl;obtain rfl:b4=true:=(by cases hb9:b4 with | true=> rfl | false=> subst hb9;exact absurd (h.n3 rfl) (by decide));have hr3:=h.r3 rfl rfl;obtain⟨a9,c9,e9⟩:=aP hr3;subst e9;have hst:=HR4.out.step (h.bel rfl);have how:=aD HOW.out (h.bel rfl);have hpl:=HPL4.out.keep (fun _ h=> h) (h.bel rfl).size (fun k _ hk=> (h.bel rfl).block k hk);have hfin:=hst.setPk how HW0.out hpl HP.out (fun k hk=> ay hk) (p':=(p.1,p.2++[y])) (v:=.slice a9 (p.2.length+1) c9) ⟨a9,c9,by rw [cY];rfl,gX.of_own (by rw [cY,lJ];exact dE hr3 (bz _)) (fun k hk=> ay (Nat.le_trans HKP.out.size hk))⟩;obtain⟨b9,e9,⟨cur9,lP⟩,cc1,u9,cc2⟩:=xH how HP.out hpl;cases e9;have hK9:=((HKP.out.step (h.bel rfl)).setNew (o:=i*2) (u:=.string p.1) HPB.out).setNew (o:=i*2+1) (u:=.slice a9 (p.2.length+1) c9) HPB.out;have ff1:=aR (o:=i*2) lP;have ff2:=aR (o:=i*2+1) lP;have lP2:=ak lP;have hN0:ki (fun W=> eZ w0 X Q (.slice (some ⟨bb,ob,none⟩) a.bks.length cb) { a with used:=a.used.set n (u+1),ps:=a.ps.set i (p.1,p.2++[y]) } w W) W4 PB y p.2 p.1 b0 b1 b2 b3 true true true (v0) (v1) (v2) (v3) ((.slice a9 (p.2.length+1) c9)) ((.agg #[.string p.1,.slice a9 (p.2.length+1) c9])) ((W.setCell ⟨PB,i*2,none⟩ (.string p.1)).setCell ⟨PB,i*2+1,none⟩ (.slice a9 (p.2.length+1) c9)):=⟨(h.kp.set rfl).set rfl,(fun e=> by cases e),(fun _ e=> by have e2:=h.n1;cases b1 <;> simp_all),(fun _ e=> by cases e),h.ry,(fun _ e=> by cases e),(fun _ e=> by cases e),(fun _=> rfl),(fun _=> ⟨_,hfin,hK9⟩),h.n0,h.n1,h.nY,h.n2,(fun e=> by cases e),(fun e=> by cases e),by simpa using h.hs⟩;clear hst how hpl hfin hK9 lP
     intro K Q hK
     simp only [az,updAll,Act.put,aU,aV,aW,aX] at hK ⊢
     go_wp2_with fail
     all_goals(first | exact hK _ hN0 | exact hN0)
    all_goals
     intro bsE vsE W hlb hlv hnd h
     obtain⟨b0,b1,b2,b3,b4,b5,b6,rfl⟩:=oy hlb
     obtain⟨v0,v1,v2,v3,v4,v5,v6,rfl⟩:=oy hlv
     replace h:ki (fun W=> eZ w0 X Q (.slice (some ⟨bb,ob,none⟩) a.bks.length cb) { a with used:=a.used.set n (u+1),ps:=a.ps.set i (p.1,p.2++[y]) } w W) W4 PB y p.2 p.1 b0 b1 b2 b3 b4 b5 b6 (v0) (v1) (v2) (v3) (v4) (v5) W:=h
     clear hnd
     have HST:=aa h
     have hq4:=(h.kp.block Q (ak HR4.out.blk) (fun c=> HNE.out.1 c)).trans HR4.out.blk;have d10:=ah hq4 (mg HR4.out.u8);have dQ:=ak hq4;have h8:=(h.kp.block P8 (ak HP4.out) (fun c=> HNE.out.2 c)).trans HP4.out;have d8:=ah (o:=0) h8 rfl;have d9:=ah (o:=1) h8 rfl;have dl:=ak h8;clear hq4 h8
     intro K Q hK
     simp only [az,updAll,Act.put,aU,aV,aW,aX] at hK ⊢
     go_wp2_with (fail)
     all_goals(first | exact hK _ h | exact h)
   case done=>
    intro vsE W hlv h
    obtain⟨v0,v1,v2,v3,v4,v5,v6,rfl⟩:=oy hlv
    replace h:ki (fun W=> eZ w0 X Q (.slice (some ⟨bb,ob,none⟩) a.bks.length cb) { a with used:=a.used.set n (u+1),ps:=a.ps.set i (p.1,p.2++[y]) } w W) W4 PB y p.2 p.1 true true true true true true true (v0) (v1) (v2) (v3) (v4) (v5) W:=h
    have HST:=aa h
    have HRN:Hid (eZ w0 X Q (.slice (some ⟨bb,ob,none⟩) a.bks.length cb) { a with used:=a.used.set n (u+1),ps:=a.ps.set i (p.1,p.2++[y]) } w W):=h.z rfl
    clear h HST
    simp only [az,updAll,Act.put,aU,aV,aW,aX]
    go_wp2_with fail
    exact bodyPost_end (results_none rfl _ _ _) rfl ⟨rfl,HRN.out⟩
end
section
open Sx Go.RowKit Mr
theorem bC.wide {w0 W:World} {X X':Nat→Prop} {Q:Nat} {vb vP:Value} {a:RegA} (h:bC w0 X Q vb a vP W)(hX:∀ k,X k→X' k)(hQ:¬ X' Q):bC w0 X' Q vb a vP W:=
 ⟨h.bel,h.hQ,h.blk,hQ,h.u8,h.pk.keep hX (bz _) (fun _ _ _=> rfl),h.bk⟩
theorem bP.pre {S:Nat→Prop} {w W w2:World} (hb:Below w.heap.size w W)(h:bP S W w2):bP S w w2:=
 ⟨h.os.trans hb.os,h.tape.trans hb.tape,h.output.trans hb.output,Nat.le_trans hb.size h.size,fun k hk hn=> (h.block k (ar hk hb.size) hn).trans (hb.block k hk)⟩
theorem bP.trans {S:Nat→Prop} {w W w2:World} (h1:bP S w W)(h:bP S W w2):bP S w w2:=
 ⟨h.os.trans h1.os,h.tape.trans h1.tape,h.output.trans h1.output,Nat.le_trans h1.size h.size,fun k hk hn=> (h.block k (ar hk h1.size) hn).trans (h1.block k hk hn)⟩
theorem eZ.pre {w0 w W w2:World} {X:Nat→Prop} {Q:Nat} {vb vP:Value} {a a':RegA} (h:bC w0 X Q vb a vP w)(hb:Below w.heap.size w W)(hN:eZ w0 X Q vb a' W w2):eZ w0 X Q vb a' w w2:=by
 obtain⟨vP',h1,h2⟩:=hN
 refine⟨vP',h1.wide (fun k hk=> hk.imp id fun c=> Nat.le_trans hb.size c) (fun c=> ?_),h2.pre hb⟩
 rcases c with c | c
 ·exact h.nq c
 ·have:=ak h.blk;omega
theorem eZ.seq {w0 w W w2:World} {X:Nat→Prop} {Q:Nat} {vb vP:Value} {a a':RegA} (h:bC w0 X Q vb a vP w)(hk:bP (fun k=> k=Q) w W)(hN:eZ w0 (fun k=> X k∨w.heap.size≤k) Q vb a' W w2):eZ w0 X Q vb a' w w2:=by
 obtain⟨vP',h1,h2⟩:=hN
 refine⟨vP',h1.wide (fun k hk9=> ?_) (fun c=> ?_),hk.trans h2⟩
 ·rcases hk9 with c | c
  ·exact c
  ·exact ay (Nat.le_trans hk.size c)
 ·rcases c with c | c
  ·exact h.nq c
  ·have:=ak h.blk;omega
theorem eZ.step {w0 w W w2:World} {X:Nat→Prop} {Q:Nat} {vb:Value} {a':RegA} (hN:eZ w0 X Q vb a' w W)(hb:Below W.heap.size W w2):eZ w0 X Q vb a' w w2:=by
 obtain⟨vP',h1,h2⟩:=hN
 exact⟨vP',h1.step hb,h2.step hb⟩
structure mx(w0:World)(es:List bR)(r b0 b1:Bool)(v0 v1:Value)(W:World):Prop where
 bel:Below w0.heap.size w0 W
 o0:b0=true→mi es v0 W
 e1:b1=true→v1=.bool r
theorem mx.step {w0 W w2:World} {es:List bR} {r b0 b1:Bool} {v0 v1:Value} (h:mx w0 es r b0 b1 v0 v1 W)(hb:Below W.heap.size W w2):mx w0 es r b0 b1 v0 v1 w2:=⟨ai h.bel hb,fun e=> (h.o0 e).step hb,h.e1⟩
theorem pw.snoc {X:Nat→Prop} {xs:List Value} {ps:List (ByteArray×List bR)} {W:World} (h:pw X xs ps W)(nm:ByteArray):pw X (xs++[.string nm,.slice none 0 0]) (ps++[(nm,[])]) W:=by
 refine⟨by rw [cY,cY,h.1];simp;omega,fun k p hk=> ?_⟩
 by_cases hkl:k < ps.length
 ·rw [List.getElem?_append_left hkl] at hk
  obtain⟨q1,ae,ce,q2,q3⟩:=h.2 k p hk
  exact⟨by rw [List.getElem?_append_left (by rw [h.1];omega)];exact q1,ae,ce,by rw [List.getElem?_append_left (by rw [h.1];omega)];exact q2,q3⟩
 ·have hl:=(aB hk).1
  rw [cY,List.length_singleton] at hl
  obtain rfl:k=ps.length:=by omega
  rw [List.getElem?_append_right (bz _),Nat.sub_self] at hk
  cases hk
  refine⟨by rw [List.getElem?_append_right (by rw [h.1];omega),h.1,Nat.sub_self];rfl,none,0,by rw [List.getElem?_append_right (by rw [h.1];omega),h.1,show ps.length*2+1 - ps.length*2=1 by omega];rfl,fun hn=> absurd rfl hn⟩
theorem kj {a:RegA} {nm:ByteArray} {p:ByteArray×List bR} (hp:a.ps[findA nm a]? =some p):p.1=nm:=by
 have h4:=(aB hp).1
 have h5:fS (a.ps[findA nm a]'h4).1 nm=true:=List.findIdx_getElem (p:=fun q:ByteArray×List bR=> fS q.1 nm) (xs:=a.ps) (w:=h4)
 rw [bh h4] at hp
 rw [bD hp] at h5
 exact i6.1 h5
theorem vK {w0 w:World} {X:Nat→Prop} {Q:Nat} {vb vP:Value} {a:RegA} (h:bC w0 X Q vb a vP w)(ho:dc a)(hd:HdI a)(b:Int)(nm:ByteArray)(k t ea eb:Int)(n1 ot:ByteArray)(hs:n1.size≤100∧ot.size≤100):
  Calls Tryz.prog 73 #[.pointer (some ⟨Q,0,none⟩),.int .i64 b,.string nm,.agg #[.int .i64 k,.int .i64 t,.int .i64 ea,.int .i64 eb,.string n1,.string ot]] w fun en w'=> en=.returned (.int .i64 (bi a b nm (k,t,ea,eb,n1,ot)).1)∧eZ w0 X Q vb (bi a b nm (k,t,ea,eb,n1,ot)).2 w w':=by
 have hnp:=ho.np
 have H:=aa h
 have HO:=aa ho
 have HD:=aa hd
 have HS:=aa hs
 obtain⟨pa,pc,rfl⟩:=h.pslice
 obtain⟨ab,cb,rfl,-⟩:=h.bk
 have CN:=aa (fun W=> bu nm W)
 have CK:=aa (fun W=> rJ k t ea eb n1 ot W (by omega) (by omega))
 have CF:=aa (fun W (hW:Below w.heap.size w W)=> cH (h.step hW) nm (by omega))
 have CL:=aa (fun W (hW:Below w.heap.size w W)=> dC (h.step hW) ho.toji b)
 have HC:=aa (ba (ah (o:=1) (v:=.slice ab a.bks.length cb) h.blk rfl) (ba h.cell10 (ak h.blk)))
 have HX:=aa (au w (.cells #[.int .i64 k,.int .i64 t,.int .i64 ea,.int .i64 eb,.string n1,.string ot] 29))
 have HB:=aa (bU (W:=w) (o:=(.cells #[.int .i64 k,.int .i64 t,.int .i64 ea,.int .i64 eb,.string n1,.string ot] 29)))
 clear h ho hd hs
 go_enter Tryz.func73,Tryz.ntmps73
 go_upto_region 1 with fail
 generalize w.alloc (.cells #[.int .i64 k,.int .i64 t,.int .i64 ea,.int .i64 eb,.string n1,.string ot] 29)=W0 at*
 obtain⟨x0,x1,x2,x3,x4,x5⟩:=bG HX.out;have xl:=ak HX.out;have c1:=ag HC.out.1 HB.out;have c10:=ag HC.out.2.1 HB.out;have cQ:=ar HC.out.2.2 HB.out.size
 by_cases hn:b < 0
 ·skip
  have HMM:=aa (show bi a b nm (k,t,ea,eb,n1,ot)=(3,a)from gK (by omega))
  go_wp2_with fail
  exact aH (v:=.int .i64 3) rfl rfl rfl ⟨by rw [HMM.out],by rw [HMM.out];exact H.out.stay HB.out⟩
 ·by_cases hg:b≥(a.bks.length:Int)
  ·skip
   have HMM:=aa (show bi a b nm (k,t,ea,eb,n1,ot)=(3,a)from gK (by omega))
   go_wp2_with fail
   exact aH (v:=.int .i64 3) rfl rfl rfl ⟨by rw [HMM.out],by rw [HMM.out];exact H.out.stay HB.out⟩
  ·have hb:0≤b∧b < a.bks.length:=by omega
   obtain⟨n,rfl⟩:=Int.eq_ofNat_of_zero_le hb.1
   go_upto_region 3 with fail
   cases h2:nameB nm with
   | false=>
    rw [h2] at CN
    have HMM:=aa (show bi a (n:Int) nm (k,t,ea,eb,n1,ot)=(2,a)from dY hb (by rintro⟨c1,c2,c5,c6⟩;exact absurd (h2.symm.trans c1) (by decide)))
    clear hb h2
    go_wp2_with (go_at_call 48;refine(CN.out _).mono ?_;rintro e w1 ⟨rfl,hbn⟩;have HX9:=aa (an HX.out hbn);have HB9:=aa (ai HB.out hbn);clear HX HB hbn;clear x0 x1 x2 x3 x4 x5 xl c1 c10 cQ;have HX:=HX9;have HB:=HB9;clear HX9 HB9;obtain⟨x0,x1,x2,x3,x4,x5⟩:=bG HX.out;have xl:=ak HX.out;have c1:=ag HC.out.1 HB.out;have c10:=ag HC.out.2.1 HB.out;have cQ:=ar HC.out.2.2 HB.out.size)
    exact aH (v:=.int .i64 2) rfl rfl rfl ⟨by rw [HMM.out],by rw [HMM.out];exact H.out.stay HB.out⟩
   | true=>
    rw [h2] at CN
    cases h3:gy k t ea eb n1 ot with
    | false=>
     rw [h3] at CK
     have HMM:=aa (show bi a (n:Int) nm (k,t,ea,eb,n1,ot)=(2,a)from dY hb (by rintro⟨c1,c2,c5,c6⟩;exact absurd (h3.symm.trans c2) (by decide)))
     clear hb h2 h3
     go_wp2_with ((first | (go_at_call 48;refine(CN.out _).mono ?_) | (go_at_call 49;refine(CK.out _).mono ?_));rintro e w1 ⟨rfl,hbn⟩;have HX9:=aa (an HX.out hbn);have HB9:=aa (ai HB.out hbn);clear HX HB hbn;clear x0 x1 x2 x3 x4 x5 xl c1 c10 cQ;have HX:=HX9;have HB:=HB9;clear HX9 HB9;obtain⟨x0,x1,x2,x3,x4,x5⟩:=bG HX.out;have xl:=ak HX.out;have c1:=ag HC.out.1 HB.out;have c10:=ag HC.out.2.1 HB.out;have cQ:=ar HC.out.2.2 HB.out.size)
     exact aH (v:=.int .i64 2) rfl rfl rfl ⟨by rw [HMM.out],by rw [HMM.out];exact H.out.stay HB.out⟩
    | true=>
     rw [h3] at CK
     by_cases k5:k=5
     ·have z5:(k==5)=true:=by rw [k5];decide
      have HMM:=aa (show bi a (n:Int) nm (k,t,ea,eb,n1,ot)=(2,a)from dY hb (by rintro⟨c1,c2,c5,c6⟩;exact c5 k5))
      clear hb h2 h3 k5
      go_wp2_with ((first | (go_at_call 48;refine(CN.out _).mono ?_) | (go_at_call 49;refine(CK.out _).mono ?_));rintro e w1 ⟨rfl,hbn⟩;have HX9:=aa (an HX.out hbn);have HB9:=aa (ai HB.out hbn);clear HX HB hbn;clear x0 x1 x2 x3 x4 x5 xl c1 c10 cQ;have HX:=HX9;have HB:=HB9;clear HX9 HB9;obtain⟨x0,x1,x2,x3,x4,x5⟩:=bG HX.out;have xl:=ak HX.out;have c1:=ag HC.out.1 HB.out;have c10:=ag HC.out.2.1 HB.out;have cQ:=ar HC.out.2.2 HB.out.size)
      exact aH (v:=.int .i64 2) rfl rfl rfl ⟨by rw [HMM.out],by rw [HMM.out];exact H.out.stay HB.out⟩
     ·by_cases k6:k=6
      ·have z5:(k==5)=false:=by simpa using k5
       have z6:(k==6)=true:=by rw [k6];decide
       have HMM:=aa (show bi a (n:Int) nm (k,t,ea,eb,n1,ot)=(2,a)from dY hb (by rintro⟨c1,c2,c5,c6⟩;exact c6 k6))
       clear hb h2 h3 k5 k6
       go_wp2_with ((first | (go_at_call 48;refine(CN.out _).mono ?_) | (go_at_call 49;refine(CK.out _).mono ?_));rintro e w1 ⟨rfl,hbn⟩;have HX9:=aa (an HX.out hbn);have HB9:=aa (ai HB.out hbn);clear HX HB hbn;clear x0 x1 x2 x3 x4 x5 xl c1 c10 cQ;have HX:=HX9;have HB:=HB9;clear HX9 HB9;obtain⟨x0,x1,x2,x3,x4,x5⟩:=bG HX.out;have xl:=ak HX.out;have c1:=ag HC.out.1 HB.out;have c10:=ag HC.out.2.1 HB.out;have cQ:=ar HC.out.2.2 HB.out.size)
       exact aH (v:=.int .i64 2) rfl rfl rfl ⟨by rw [HMM.out],by rw [HMM.out];exact H.out.stay HB.out⟩
      ·skip
       have z5:(k==5)=false:=by simpa using k5
       have z6:(k==6)=false:=by simpa using k6
       go_upto_region 5 with((first | (go_at_call 48;refine(CN.out _).mono ?_) | (go_at_call 49;refine(CK.out _).mono ?_));rintro e w1 ⟨rfl,hbn⟩;have HX9:=aa (an HX.out hbn);have HB9:=aa (ai HB.out hbn);clear HX HB hbn;clear x0 x1 x2 x3 x4 x5 xl c1 c10 cQ;have HX:=HX9;have HB:=HB9;clear HX9 HB9;obtain⟨x0,x1,x2,x3,x4,x5⟩:=bG HX.out;have xl:=ak HX.out;have c1:=ag HC.out.1 HB.out;have c10:=ag HC.out.2.1 HB.out;have cQ:=ar HC.out.2.2 HB.out.size)
       by_cases k1:k=1
       ·have z1:(k==1)=true:=by rw [k1];decide
        by_cases h4:findA nm a < a.ps.length
        ·skip
         rw [dM h4] at CF
         have f0:((findA nm a:Nat):Int)≥0:=by omega
         have f1:¬ ((findA nm a:Nat):Int) < 0:=by omega
         have HMM:=aa (show bi a (n:Int) nm (k,t,ea,eb,n1,ot)=(12,a)from by rw [ez (e:=(k,t,ea,eb,n1,ot)) hb ⟨h2,(show eC (k,t,ea,eb,n1,ot)=true from h3),(show k≠5 from k5),(show k≠6 from k6)⟩ k1,aG h4])
         generalize findA nm a=i at*
         clear hb h2 h3 h4 k1 k5 k6
         go_wp2_with (go_at_call 83;refine(CF.out _ HB.out).mono ?_;rintro e w1 ⟨rfl,hbn⟩;have HX9:=aa (an HX.out hbn);have HB9:=aa (ai HB.out hbn);clear HX HB hbn;clear x0 x1 x2 x3 x4 x5 xl c1 c10 cQ;have HX:=HX9;have HB:=HB9;clear HX9 HB9;obtain⟨x0,x1,x2,x3,x4,x5⟩:=bG HX.out;have xl:=ak HX.out;have c1:=ag HC.out.1 HB.out;have c10:=ag HC.out.2.1 HB.out;have cQ:=ar HC.out.2.2 HB.out.size)
         exact aH (v:=.int .i64 12) rfl rfl rfl ⟨by rw [HMM.out],by rw [HMM.out];exact H.out.stay HB.out⟩
        ·skip
         rw [im h4] at CF
         by_cases h5:100≤a.ps.length
         ·have h7:(a.ps.length:Int)≥100:=by omega
          have HMM:=aa (show bi a (n:Int) nm (k,t,ea,eb,n1,ot)=(11,a)from by rw [ez (e:=(k,t,ea,eb,n1,ot)) hb ⟨h2,(show eC (k,t,ea,eb,n1,ot)=true from h3),(show k≠5 from k5),(show k≠6 from k6)⟩ k1,aA h4,aG h5])
          clear hb h2 h3 h4 h5 k1 k5 k6
          go_wp2_with (go_at_call 83;refine(CF.out _ HB.out).mono ?_;rintro e w1 ⟨rfl,hbn⟩;have HX9:=aa (an HX.out hbn);have HB9:=aa (ai HB.out hbn);clear HX HB hbn;clear x0 x1 x2 x3 x4 x5 xl c1 c10 cQ;have HX:=HX9;have HB:=HB9;clear HX9 HB9;obtain⟨x0,x1,x2,x3,x4,x5⟩:=bG HX.out;have xl:=ak HX.out;have c1:=ag HC.out.1 HB.out;have c10:=ag HC.out.2.1 HB.out;have cQ:=ar HC.out.2.2 HB.out.size)
          exact aH (v:=.int .i64 11) rfl rfl rfl ⟨by rw [HMM.out],by rw [HMM.out];exact H.out.stay HB.out⟩
         ·have h7:¬ (a.ps.length:Int)≥100:=by omega
          by_cases h6:leftA a (n:Int) < 1
          ·skip
           have HMM:=aa (show bi a (n:Int) nm (k,t,ea,eb,n1,ot)=(4,a)from by rw [ez (e:=(k,t,ea,eb,n1,ot)) hb ⟨h2,(show eC (k,t,ea,eb,n1,ot)=true from h3),(show k≠5 from k5),(show k≠6 from k6)⟩ k1,aA h4,aA h5,aG h6])
           generalize leftA a (n:Int)=L at*
           clear hb h2 h3 h4 h5 k1 k5 k6
           go_wp2_with ((first | (go_at_call 83;refine(CF.out _ HB.out).mono ?_) | (go_at_call 80;refine(CL.out _ HB.out).mono ?_));rintro e w1 ⟨rfl,hbn⟩;have HX9:=aa (an HX.out hbn);have HB9:=aa (ai HB.out hbn);clear HX HB hbn;clear x0 x1 x2 x3 x4 x5 xl c1 c10 cQ;have HX:=HX9;have HB:=HB9;clear HX9 HB9;obtain⟨x0,x1,x2,x3,x4,x5⟩:=bG HX.out;have xl:=ak HX.out;have c1:=ag HC.out.1 HB.out;have c10:=ag HC.out.2.1 HB.out;have cQ:=ar HC.out.2.2 HB.out.size)
           exact aH (v:=.int .i64 4) rfl rfl rfl ⟨by rw [HMM.out],by rw [HMM.out];exact H.out.stay HB.out⟩
          ·skip
           have HMM:=aa (show bi a (n:Int) nm (k,t,ea,eb,n1,ot)=(0,putA { a with ps:=a.ps++[(nm,[])] } n a.ps.length (k,t,ea,eb,n1,ot))from by rw [ez (e:=(k,t,ea,eb,n1,ot)) hb ⟨h2,(show eC (k,t,ea,eb,n1,ot)=true from h3),(show k≠5 from k5),(show k≠6 from k6)⟩ k1,aA h4,aA h5,aA h6,Int.toNat_natCast])
           have hnb:n < a.bks.length:=by omega
           have HU:=aa (gV hnb h6)
           obtain⟨j0,hj0,hy0,hy1,hy2⟩:=info_parts qG
           have HBQ:=aa H.out.blk
           obtain⟨xs,hpl,hsrc⟩:=H.out.pk.cells
           have HPL:Hid (pw X xs a.ps w∧∀ W,Below w.heap.size w W→a.ps.length*2≠0→∃ p off,pa=some ⟨p,off,none⟩∧∀ (j:Nat) (u:Value),xs[j]? =some u→W.cell? ⟨p,off+j,none⟩=some u):=⟨hpl,fun W hW hn=> by obtain⟨b9,s1,-,s2,s3⟩:=hsrc hn;exact⟨b9,0,s1,fun j u hj=> ag (s3 j u hj) hW⟩⟩
           have HNM:=aa (ba h2 (ba h3 (ba h5 hnb)))
           have hps:a.ps.length < 100:=by omega
           generalize leftA a (n:Int)=L at*
           clear hb h2 h3 h4 h5 hpl hsrc hnb k1 k5 k6
           go_upto_region 21 with((first | (go_at_call 48;refine(CN.out _).mono ?_) | (go_at_call 49;refine(CK.out _).mono ?_) | (go_at_call 83;refine(CF.out _ HB.out).mono ?_) | (go_at_call 80;refine(CL.out _ HB.out).mono ?_));rintro e w1 ⟨rfl,hbn⟩;have HX9:=aa (an HX.out hbn);have HB9:=aa (ai HB.out hbn);clear HX HB hbn;clear x0 x1 x2 x3 x4 x5 xl c1 c10 cQ;have HX:=HX9;have HB:=HB9;clear HX9 HB9;obtain⟨x0,x1,x2,x3,x4,x5⟩:=bG HX.out;have xl:=ak HX.out;have c1:=ag HC.out.1 HB.out;have c10:=ag HC.out.2.1 HB.out;have cQ:=ar HC.out.2.2 HB.out.size)
           clear c1 c10 cQ
           have c10:=ag HC.out.2.1 HB.out
           have cQ:=ar HC.out.2.2 HB.out.size
           clear x0 x1 x2 x3 x4 x5 xl
           go_upto_region 22 with(first | (at_builtin;have hown0:=kh (sz:=2) (E:=144) (B:=w.heap.size) (W:=w1) HB.out.size;refine bM _ rfl (.tmp 90) (.tmp 94) 133 rfl w.heap.size 144 j0 _ 2 40 Tryz.underlying133 hj0 hy0 hy1 hy2 rfl (by decide) _ 0 [] rfl hown0 pa a.ps.length pc xs rfl HPL.out.1.1 (HPL.out.2 (w1.alloc (.cells #[] 144)) (aK HB.out _)) HPL.out.1.one (by unfold maxLen;omega) (by omega) (by have:=HB.out.size;simp;omega) ?_;intro v' w5 hown hgrow hat;have hO5:Hid (w5.ownsRow w.heap.size 144 2 v' a.ps.length xs):=(by show World.ownsRow _ _ _ _ _ _ _;rw [Nat.zero_add,List.nil_append] at hown;exact hown);have HB5:Hid (Below w.heap.size w w5):=(aK HB.out _).grown hgrow (by have:=HB.out.size;simp;omega) (fun k hk=> (World.ownsRow.lt hown0 k hk).1);have HS5:=aa hgrow.size;have HX5:Hid (w5.heap[w.heap.size]? =some (Obj.cells #[.int .i64 k,.int .i64 t,.int .i64 ea,.int .i64 eb,.string n1,.string ot] 29 (0,0))):=aa (cV (an HX.out bU) hgrow hown0 (by decide));obtain⟨a5,c5,e5⟩:=aP hO5.out;subst e5;clear hown hgrow hat hown0) | (at_builtin;refine bM _ rfl (.tmp 95) (.tmp 98) 133 rfl w.heap.size 144 j0 _ 2 40 Tryz.underlying133 hj0 hy0 hy1 hy2 rfl (by decide) _ a.ps.length xs rfl (aD hO5.out bU) (some ⟨w5.heap.size,0,none⟩) 1 1 [.string nm,.slice none 0 0] rfl rfl qH (zm nm) (by unfold maxLen;omega) (by omega) (by have:=HB5.out.size;simp;omega) ?_;intro v' w6 hown hgrow hat;have hO6:=aa hown;have HB6:Hid (Below w.heap.size w w6):=(aK HB5.out _).grown hgrow (by have:=HB5.out.size;simp;omega) (fun k hk=> (World.ownsRow.lt hO5.out k hk).1);have HX6:Hid (w6.heap[w.heap.size]? =some (Obj.cells #[.int .i64 k,.int .i64 t,.int .i64 ea,.int .i64 eb,.string n1,.string ot] 29 (0,0))):=aa (cV (an HX5.out bU) hgrow (aD hO5.out bU) (by decide));obtain⟨a6,c6,e6⟩:=aP hO6.out;subst e6;have c10:=ag HC.out.2.1 HB6.out;have cQ:=ar HC.out.2.2 HB6.out.size;have cF:=aR (o:=10) ((HB6.out.block Q HC.out.2.2).trans HBQ.out);clear hown hgrow hat))
           have hP:bC w0 (fun k=> X k∨w.heap.size≤k) Q (.slice ab a.bks.length cb) { a with ps:=a.ps++[(nm,[])] } (.slice a6 (a.ps.length+1) c6) (w6.setCell ⟨Q,10,none⟩ (.slice a6 (a.ps.length+1) c6)):=by
            refine((H.out.step HB6.out).more HC.out.2.2).setP ?_
            refine tu.of_own (B:=w.heap.size) (xs:=xs++[.string nm,.slice none 0 0]) ?_ ((HPL.out.1.snoc nm).keep (fun _ h=> ax h) HB6.out.size (fun k _ hk=> HB6.out.block k hk)) (fun k hk=> ay hk)
            rw [cY,List.length_singleton]
            exact hO6.out
           have HK:Hid (bP (fun k=> k=Q) w (w6.setCell ⟨Q,10,none⟩ (.slice a6 (a.ps.length+1) c6))):=(bP.of_below HB6.out).set rfl
           have HX7:Hid ((w6.setCell ⟨Q,10,none⟩ (.slice a6 (a.ps.length+1) c6)).heap[w.heap.size]? =some (Obj.cells #[.int .i64 k,.int .i64 t,.int .i64 ea,.int .i64 eb,.string n1,.string ot] 29 (0,0))):=aa (bA HX6.out (fun c=> by have c2:w.heap.size=Q:=c;have:=HC.out.2.2;omega))
           have HP7:=aa hP
           clear hP
           generalize w6.setCell ⟨Q,10,none⟩ (.slice a6 (a.ps.length+1) c6)=W7 at*
           have hob:=HO.out.toji.addP HNM.out.1 hps
           have CA:=aa (iW (n:=n) (i:=a.ps.length) (p:=(nm,[])) HP7.out hob (HD.out.addP nm) (by simp) HNM.out.2.2.2 HU.out (k,t,ea,eb,n1,ot) HNM.out.2.1 HS.out)
           obtain⟨x0,x1,x2,x3,x4,x5⟩:=bG HX7.out;have xl:=ak HX7.out
           clear hob c10 cQ cF
           go_wp2_with (go_at_call 121;refine CA.out.mono ?_;rintro e w1 ⟨rfl,hN⟩;have HN:=aa (eZ.seq H.out HK.out hN);clear hN)
           exact aH (v:=.int .i64 0) rfl rfl rfl ⟨by rw [HMM.out],by rw [HMM.out];exact HN.out⟩
       ·have z1:(k==1)=false:=by simpa using k1
        cases hp:a.ps[findA nm a]? with
        | none=>
         have h4:¬ findA nm a < a.ps.length:=by have:=List.getElem?_eq_none_iff.1 hp;omega
         rw [im h4] at CF
         have HMM:=aa (show bi a (n:Int) nm (k,t,ea,eb,n1,ot)=(5,a)from by rw [gP (e:=(k,t,ea,eb,n1,ot)) hb ⟨h2,(show eC (k,t,ea,eb,n1,ot)=true from h3),(show k≠5 from k5),(show k≠6 from k6)⟩ k1,hp])
         clear hb h2 h3 h4 hp k1 k5 k6
         go_wp2_with (go_at_call 83;refine(CF.out _ HB.out).mono ?_;rintro e w1 ⟨rfl,hbn⟩;have HX9:=aa (an HX.out hbn);have HB9:=aa (ai HB.out hbn);clear HX HB hbn;clear x0 x1 x2 x3 x4 x5 xl c1 c10 cQ;have HX:=HX9;have HB:=HB9;clear HX9 HB9;obtain⟨x0,x1,x2,x3,x4,x5⟩:=bG HX.out;have xl:=ak HX.out;have c1:=ag HC.out.1 HB.out;have c10:=ag HC.out.2.1 HB.out;have cQ:=ar HC.out.2.2 HB.out.size)
         exact aH (v:=.int .i64 5) rfl rfl rfl ⟨by rw [HMM.out],by rw [HMM.out];exact H.out.stay HB.out⟩
        | some p=>
         have h4:findA nm a < a.ps.length:=(aB hp).1
         rw [dM h4] at CF
         have f0:((findA nm a:Nat):Int)≥0:=by omega
         have f1:¬ ((findA nm a:Nat):Int) < 0:=by omega
         obtain⟨b9,e9,lb9,q1,ae,ce,q2,q3⟩:=H.out.pack hp
         subst e9
         have hpm:=aJ hp
         obtain⟨p1,p2,p3,p4⟩:=HO.out.p p hpm
         have hpn:p.1=nm:=kj hp
         have CE:Hid (∀ W0 W:World,Below w.heap.size w W0→Below W0.heap.size W0 W→Calls Tryz.prog 51 #[.slice ae p.2.length ce] W fun en w'=> ∃ v',en=.returned v'∧w'.ownsRow W.heap.size 29 6 v' p.2.length (eh (br p.2))∧Below W.heap.size W w'):=fun W0 W h0 hW=> dI ce (q3.keep (fun _ h=> h) (ai h0 hW).size (fun k _ hk=> (ai h0 hW).block k hk)).at_ (by omega)
         obtain⟨r9,hr9⟩:∃ r9,cg p.1 (lf p) (k,t,ea,eb,n1,ot)=r9:=⟨_,rfl⟩
         have CC:Hid (∀ (W:World) (a9:Option Addr) (c9:Nat),eK a9 (br p.2) W→Calls Tryz.prog 50 #[.string nm,.slice a9 (br p.2).length c9,.agg #[.int .i64 k,.int .i64 t,.int .i64 ea,.int .i64 eb,.string n1,.string ot]] W fun en w'=> en=.returned (.bool r9)∧Below W.heap.size W w'):=fun W a9 c9 hE=> by
          have h9:=gY (w:=W) c9 p.1 hE (by rw [dd];omega) (eU p3) (by have:=(bI p4).2;omega) (k,t,ea,eb,n1,ot)
          rw [← fC p2,show cg p.1 (lifeOf p.1 (br p.2)) (k,t,ea,eb,n1,ot)=r9 from hr9,hpn] at h9
          exact h9
         have HQ:=aa (ba q1 (ba q2 lb9))
         have hi0:(0:Int)≤((findA nm a:Nat):Int):=by omega
         have hi1:((findA nm a:Nat):Int) < a.ps.length:=by omega
         have HCA:Hid (¬ leftA a (n:Int) < 1→Hid (∀ W,Below w.heap.size w W→Calls Tryz.prog 121 #[.pointer (some ⟨Q,0,none⟩),.int .i64 (n:Int),.int .i64 ((findA nm a:Nat):Int),.agg #[.int .i64 k,.int .i64 t,.int .i64 ea,.int .i64 eb,.string n1,.string ot]] W fun en w'=> en=.returned (.tuple #[])∧eZ w0 X Q (.slice ab a.bks.length cb) (putA a n (findA nm a) (k,t,ea,eb,n1,ot)) W w')):=fun h8 W hW=> iW (H.out.step hW) HO.out.toji HD.out hp (by omega) (gV (by omega) h8) (k,t,ea,eb,n1,ot) h3 HS.out
         have hmn:bi a (n:Int) nm (k,t,ea,eb,n1,ot)=if r9=false then(10,a)else if 500≤p.2.length then(11,a)else if leftA a (n:Int) < 1 then(4,a)else(0,putA a n (findA nm a) (k,t,ea,eb,n1,ot)):=by rw [gP (e:=(k,t,ea,eb,n1,ot)) hb ⟨h2,(show eC (k,t,ea,eb,n1,ot)=true from h3),(show k≠5 from k5),(show k≠6 from k6)⟩ k1,hp,Int.toNat_natCast,← hr9]
         have HMN:=aa hmn
         generalize putA a n (findA nm a) (k,t,ea,eb,n1,ot)=a2 at*
         generalize findA nm a=i at*
         generalize leftA a (n:Int)=L at*
         clear hb h2 h3 h4 hp hpm p1 p2 p3 p4 q1 q2 q3 lb9 hr9 hpn hmn k1 k5 k6
         go_upto_region 13 with((first | (go_at_call 48;refine(CN.out _).mono ?_) | (go_at_call 49;refine(CK.out _).mono ?_) | (go_at_call 83;refine(CF.out _ HB.out).mono ?_) | (go_at_call 80;refine(CL.out _ HB.out).mono ?_));rintro e w1 ⟨rfl,hbn⟩;have HX9:=aa (an HX.out hbn);have HB9:=aa (ai HB.out hbn);clear HX HB hbn;clear x0 x1 x2 x3 x4 x5 xl c1 c10 cQ;have HX:=HX9;have HB:=HB9;clear HX9 HB9;obtain⟨x0,x1,x2,x3,x4,x5⟩:=bG HX.out;have xl:=ak HX.out;have c1:=ag HC.out.1 HB.out;have c10:=ag HC.out.2.1 HB.out;have cQ:=ar HC.out.2.2 HB.out.size)
         replace CE:=aa (fun W=> CE.out w1 W HB.out)
         have H13:Hid (w1.cell? ⟨Q,10,none⟩=some (.slice (some ⟨b9,0,none⟩) a.ps.length pc)∧Q < w1.heap.size∧b9 < w1.heap.size∧w1.cell? ⟨b9,i*2,none⟩=some (.string p.1)∧w1.cell? ⟨b9,i*2+1,none⟩=some (.slice ae p.2.length ce)):=⟨c10,cQ,ar HQ.out.2.2 HB.out.size,ag HQ.out.1 HB.out,ag HQ.out.2.1 HB.out⟩
         clear x0 x1 x2 x3 x4 x5 xl c1 c10 cQ
         refine bo 13 14 107 [(9,64),(11,66)] [(none,[]),(none,[]),(none,[]),(none,[]),(none,[]),(none,[]),(none,[]),(none,[]),(none,[]),(some 0,[]),(none,[]),(some 1,[0]),(none,[1])] [(55,(.string nm)),(56,(.pointer (some ⟨Q,0,none⟩))),(57,(.pointer (some ⟨Q,0,none⟩))),(58,(.pointer (some ⟨Q,10,none⟩))),(59,(.slice (some ⟨b9,0,none⟩) a.ps.length pc)),(60,(.int .i64 (i:Int))),(61,(.pointer (some ⟨b9,i*2,none⟩))),(62,(.pointer (some ⟨b9,i*2+1,none⟩))),(63,(.slice ae p.2.length ce)),(65,(.agg #[.int .i64 k,.int .i64 t,.int .i64 ea,.int .i64 eb,.string n1,.string ot])),(67,(.bool (!r9)))] (fun bsE vsE W=> mx w1 p.2 r9 (bsE.getD 0 false) (bsE.getD 1 false) ((vsE.getD 0 undef)) ((vsE.getD 1 undef)) W) (by kernel_rfl) (by kernel_rfl) rfl rfl (by kernel_rfl) (by rfl) ?h0 ?each ?done
         case h0=>
          intro vsE hlv
          obtain⟨v0,v1,rfl⟩:=cd hlv
          exact⟨(Below.refl _ _).drew,(fun e=> by cases e),(fun e=> by cases e)⟩
         case each=>
          simp only [dp]
          refine⟨⟨55,(.string nm),rfl,by kernel_rfl,?_⟩,⟨56,(.pointer (some ⟨Q,0,none⟩)),rfl,by kernel_rfl,?_⟩,⟨57,(.pointer (some ⟨Q,0,none⟩)),rfl,by kernel_rfl,?_⟩,⟨58,(.pointer (some ⟨Q,10,none⟩)),rfl,by kernel_rfl,?_⟩,⟨59,(.slice (some ⟨b9,0,none⟩) a.ps.length pc),rfl,by kernel_rfl,?_⟩,⟨60,(.int .i64 (i:Int)),rfl,by kernel_rfl,?_⟩,⟨61,(.pointer (some ⟨b9,i*2,none⟩)),rfl,by kernel_rfl,?_⟩,⟨62,(.pointer (some ⟨b9,i*2+1,none⟩)),rfl,by kernel_rfl,?_⟩,⟨63,(.slice ae p.2.length ce),rfl,by kernel_rfl,?_⟩,ax ⟨64,rfl,?q1_9⟩,⟨65,(.agg #[.int .i64 k,.int .i64 t,.int .i64 ea,.int .i64 eb,.string n1,.string ot]),rfl,by kernel_rfl,?_⟩,ax ⟨66,rfl,?q1_11⟩,⟨67,(.bool (!r9)),rfl,by kernel_rfl,?q1_12⟩,trivial⟩
          case q1_9=>
           intro bsE vsE W hlb hlv hnd hbk h
           obtain⟨b0,b1,rfl⟩:=cd hlb
           obtain⟨v0,v1,rfl⟩:=cd hlv
           obtain rfl:b0=false:=hbk
           replace h:mx w1 p.2 r9 false b1 (v0) (v1) W:=h
           clear hnd
           have HST:=aa h
           skip
           intro K Q hK
           simp only [az,updAll,Act.put,aU,aV,aW,aX] at hK ⊢
           go_wp2_with (go_at_call 51;refine(CE.out _ h.bel).mono ?_;rintro en w9 ⟨v',rfl,ho9,hb9⟩)
           all_goals(have hm:mx w1 p.2 r9 true b1 v' v1 w9:=⟨ai h.bel hb9,fun _=> fz ho9,h.e1⟩)
           all_goals(first | exact hK _ _ hm | exact hm)
          case q1_11=>
           intro bsE vsE W hlb hlv hnd hbk h
           obtain⟨b0,b1,rfl⟩:=cd hlb
           obtain⟨v0,v1,rfl⟩:=cd hlv
           obtain rfl:b0=true:=hnd 0 (by simp)
           obtain rfl:b1=false:=hbk
           replace h:mx w1 p.2 r9 true false (v0) (v1) W:=h
           clear hnd
           have HST:=aa h
           obtain⟨a9,c9,rfl,hev⟩:=h.o0 rfl
           intro K Q hK
           simp only [az,updAll,Act.put,aU,aV,aW,aX] at hK ⊢
           go_wp2_with (go_at_call 50;refine(CC.out _ a9 c9 hev).mono ?_;rintro en w9 ⟨rfl,hb9⟩)
           all_goals(have hm:mx w1 p.2 r9 true true (.slice a9 (br p.2).length c9) (.bool r9) w9:=⟨ai h.bel hb9,fun _=> ⟨a9,c9,rfl,hev.step hb9⟩,fun _=> rfl⟩)
           all_goals(first | exact hK _ _ hm | exact hm)
          case q1_12=>
           intro bsE vsE W hlb hlv hnd h
           obtain⟨b0,b1,rfl⟩:=cd hlb
           obtain⟨v0,v1,rfl⟩:=cd hlv
           obtain rfl:b1=true:=hnd 1 (by simp)
           replace h:mx w1 p.2 r9 b0 true (v0) (v1) W:=h
           clear hnd
           have HST:=aa h
           obtain rfl:=h.e1 rfl
           intro K Q hK
           simp only [az,updAll,Act.put,aU,aV,aW,aX] at hK ⊢
           go_wp2_with (fail)
           all_goals(first | exact hK _ h | exact h)
          all_goals
           intro bsE vsE W hlb hlv hnd h
           obtain⟨b0,b1,rfl⟩:=cd hlb
           obtain⟨v0,v1,rfl⟩:=cd hlv
           replace h:mx w1 p.2 r9 b0 b1 (v0) (v1) W:=h
           clear hnd
           have HST:=aa h
           have hX13:=an HX.out h.bel;obtain⟨y0,y1,y2,y3,y4,y5⟩:=bG hX13;have yl:=ak hX13;clear hX13;obtain⟨g1,g2,g3,g4,g5⟩:=H13.out;have d10:=ag g1 h.bel;have dl:=ar g2 h.bel.size;have db:=ar g3 h.bel.size;have d1:=ag g4 h.bel;have d2:=ag g5 h.bel;clear g1 g2 g3 g4 g5
           intro K Q hK
           simp only [az,updAll,Act.put,aU,aV,aW,aX] at hK ⊢
           go_wp2_with (fail)
           all_goals(first | exact hK _ h | exact h)
         case done=>
          intro vsE W hlv h
          obtain⟨v0,v1,rfl⟩:=cd hlv
          replace h:mx w1 p.2 r9 true true (v0) (v1) W:=h
          have HST:=aa h
          obtain rfl:=h.e1 rfl
          have HX2:=aa (an HX.out h.bel)
          have HB2:=aa (ai HB.out h.bel)
          clear h HST HX HB H13
          have HX:=HX2
          have HB:=HB2
          clear HX2 HB2
          obtain⟨x0,x1,x2,x3,x4,x5⟩:=bG HX.out;have xl:=ak HX.out;have c1:=ag HC.out.1 HB.out;have c10:=ag HC.out.2.1 HB.out;have cQ:=ar HC.out.2.2 HB.out.size
          simp only [az,updAll,Act.put,aU,aV,aW,aX]
          cases r9 with
          | false=>
           have hm:=HMN.out
           rw [aG rfl] at hm
           have HMM:=aa hm
           clear hm HMN
           go_wp2_with fail
           exact aH (v:=.int .i64 10) rfl rfl rfl ⟨by rw [HMM.out],by rw [HMM.out];exact H.out.stay HB.out⟩
          | true=>
           have q1:=ag HQ.out.1 HB.out
           have q2:=ag HQ.out.2.1 HB.out
           have lb9:=ar HQ.out.2.2 HB.out.size
           by_cases h6:500≤p.2.length
           ·have h7:(p.2.length:Int)≥500:=by omega
            have hm:=HMN.out
            rw [aA (show ¬ (true=false)from by decide),aG h6] at hm
            have HMM:=aa hm
            clear hm HMN
            clear h6
            go_wp2_with fail
            exact aH (v:=.int .i64 11) rfl rfl rfl ⟨by rw [HMM.out],by rw [HMM.out];exact H.out.stay HB.out⟩
           ·have h7:¬ (p.2.length:Int)≥500:=by omega
            by_cases h8:L < 1
            ·skip
             have hm:=HMN.out
             rw [aA (show ¬ (true=false)from by decide),aA h6,aG h8] at hm
             have HMM:=aa hm
             clear hm HMN
             clear h6
             go_wp2_with (go_at_call 80;refine(CL.out _ HB.out).mono ?_;rintro e w1 ⟨rfl,hbn⟩;have HX9:=aa (an HX.out hbn);have HB9:=aa (ai HB.out hbn);clear HX HB hbn;clear x0 x1 x2 x3 x4 x5 xl c1 c10 cQ;have HX:=HX9;have HB:=HB9;clear HX9 HB9;obtain⟨x0,x1,x2,x3,x4,x5⟩:=bG HX.out;have xl:=ak HX.out;have c1:=ag HC.out.1 HB.out;have c10:=ag HC.out.2.1 HB.out;have cQ:=ar HC.out.2.2 HB.out.size)
             exact aH (v:=.int .i64 4) rfl rfl rfl ⟨by rw [HMM.out],by rw [HMM.out];exact H.out.stay HB.out⟩
            ·skip
             have CA:=HCA.out (by omega)
             have hm:=HMN.out
             rw [aA (show ¬ (true=false)from by decide),aA h6,aA h8] at hm
             have HMM:=aa hm
             clear hm HMN
             clear h6
             go_wp2_with (first | (go_at_call 80;refine(CL.out _ HB.out).mono ?_;rintro e w1 ⟨rfl,hbn⟩;have HX9:=aa (an HX.out hbn);have HB9:=aa (ai HB.out hbn);clear HX HB hbn;clear x0 x1 x2 x3 x4 x5 xl c1 c10 cQ;have HX:=HX9;have HB:=HB9;clear HX9 HB9;obtain⟨x0,x1,x2,x3,x4,x5⟩:=bG HX.out;have xl:=ak HX.out;have c1:=ag HC.out.1 HB.out;have c10:=ag HC.out.2.1 HB.out;have cQ:=ar HC.out.2.2 HB.out.size) | (go_at_call 121;refine(CA.out _ HB.out).mono ?_;rintro e w1 ⟨rfl,hN⟩;have HN:=aa (eZ.pre H.out HB.out hN);clear hN))
             exact aH (v:=.int .i64 0) rfl rfl rfl ⟨by rw [HMM.out],by rw [HMM.out];exact HN.out⟩
theorem qI {w0 w:World} {X:Nat→Prop} {Q:Nat} {vb vP:Value} {a:RegA} (h:bC w0 X Q vb a vP w)(ho:dc a)(hd:HdI a)(b:Int)(nm:ByteArray)(e:bQ)(hs:e.2.2.2.2.1.size≤100∧e.2.2.2.2.2.size≤100):
  Calls Tryz.prog 73 #[.pointer (some ⟨Q,0,none⟩),.int .i64 b,.string nm,kZ e] w fun en w'=> en=.returned (.int .i64 (bi a b nm e).1)∧eZ w0 X Q vb (bi a b nm e).2 w w':=by
 obtain⟨k,t,ea,eb,n1,ot⟩:=e
 exact vK h ho hd b nm k t ea eb n1 ot hs
end
section
open Sx Go.RowKit Mr
theorem xI(x lo hi:Int):inB x lo hi=(decide (lo≤x) && decide (x≤hi)):=rfl
theorem vL:(Tryz.prog.info? 3).map (fun i=> (i.zero,i.size,i.bytes))=some (some (.int .i64 0),1,8):=by kernel_rfl
theorem dc.first {a:RegA} (ho:dc a){p:ByteArray×List bR} (hp:p∈a.ps):∃ y,p.2[0]? =some y∧y.1=(lf p).made:=by
 obtain⟨-,p2,-,-⟩:=ho.p p hp
 have hne:=ho.ne p hp
 have hl:0 < p.2.length:=Nat.pos_of_ne_zero fun e=> hne (eF e)
 refine⟨p.2[0],bh hl,?_⟩
 have h0:(br p.2)[0]? =some p.2[0].1:=by unfold br;rw [bX,bh hl];rfl
 have h9:=mp p2 h0 (br p.2).length (by rw [dd];omega) (bz _)
 rw [List.take_length] at h9
 exact h9.symm
theorem gX.head {X:Nat→Prop} {ae:Option Addr} {es:List bR} {W:World} {y:bR} (h:gX X ae es W)(hy:es[0]? =some y){k t ea eb:Int} {n1 ot:ByteArray} (he:y.1=(k,t,ea,eb,n1,ot)):∃ b,ae=some ⟨b,0,none⟩∧b < W.heap.size∧∀ (j:Nat) (u:Value),[Value.int .i64 k,.int .i64 t,.int .i64 ea,.int .i64 eb,.string n1,.string ot][j]? =some u→W.cell? ⟨b,0+j,none⟩=some u:=by
 obtain⟨b,e1,-,e3,e4⟩:=h (by rintro rfl;cases hy)
 refine⟨b,e1,e3,fun j u hj=> ?_⟩
 have hj6:j < 6:=(aB hj).1
 have h9:(bK es)[0*10+j]? =some u:=lK hy (by
  obtain⟨e,by_,pad,head,tag⟩:=y
  dsimp only at he
  subst he
  show([Value.int .i64 k,.int .i64 t,.int .i64 ea,.int .i64 eb,.string n1,.string ot]++[.int .i64 by_,.int .i64 pad,.int .u64 (head:Int),.int .u64 (tag:Int)])[j]? =some u
  rw [List.getElem?_append_left (by simpa using hj6)]
  exact hj)
 rw [Nat.zero_add]
 have h8:=e4 (0*10+j) u h9
 rwa [Nat.zero_mul,Nat.zero_add] at h8
theorem nH {α:Type} {l:List α} {f:α→Bool} {j:Nat} {m:α} (h:l[j]? =some m):(l.take (j+1)).any f=((l.take j).any f || f m):=by
 rw [List.take_add_one,h,List.any_append]
 simp
theorem mN {w0 w:World} {X:Nat→Prop} {Q:Nat} {vb vP:Value} {a:RegA} (h:bC w0 X Q vb a vP w)(ho:dc a)(bt r:ByteArray)(t0 t1:Int):
  Calls Tryz.prog 122 #[.pointer (some ⟨Q,0,none⟩),.string bt,.int .i64 t0,.int .i64 t1,.string r] w fun en w'=> ∃ v',en=.returned v'∧w'.ownsRow w.heap.size 3 1 v' (affA a bt t0 t1 r).length ((affA a bt t0 t1 r).map (fun i:Nat=> Value.int .i64 (i:Int)))∧Below w.heap.size w w':=by
 have hnp:=ho.np
 have H:=aa h
 have HO:=aa ho
 obtain⟨pa,pc,rfl⟩:=h.pslice
 have CF0:=aa (fun nm W (hW:Below w.heap.size w W)=> cH (h.step hW) nm (by omega))
 have c10:=h.cell10
 have cQ:=ak h.blk
 have HC:=aa (ba c10 cQ)
 clear h ho
 go_enter Tryz.func122,Tryz.ntmps122
 go_wp2_with fail
 clear c10 cQ
 go_loopw [11,12] (fun vo ix wr=> ∃ i:Nat,i≤a.ps.length∧ix=.int .i64 i∧Hid (wr.ownsRow w.heap.size 3 1 vo (du a bt t0 t1 r i).length ((du a bt t0 t1 r i).map (fun i:Nat=> Value.int .i64 (i:Int))))∧Hid (Below w.heap.size w wr)) (fun _ ix _=> a.ps.length - (intOf ix).toNat)
 case atStart=> exact⟨0,by omega,rfl,⟨rfl,ax ⟨rfl,rfl⟩⟩,Below.refl _ _⟩
 case round=>
  obtain⟨i,hi,rfl,HQ,HW⟩:=hrel
  have c10:=ag HC.out.1 HW.out
  have cQ:=ar HC.out.2 HW.out.size
  by_cases hc:i < a.ps.length
  ·have k1:(i:Int) < a.ps.length:=by omega
   have k0:(0:Int)≤i:=by omega
   obtain⟨p,hp⟩:∃ p,a.ps[i]? =some p:=⟨a.ps[i],bh hc⟩
   have hpm:=aJ hp
   obtain⟨b,eb,lb,q1,ae,ce,q2,q3⟩:=(H.out.step HW.out).pack hp
   subst eb
   obtain⟨p1,p2,p3,p4⟩:=HO.out.p p hpm
   have hml:(lf p).ms.length≤1000000:=by
    have h1:=kg p.1 (br p.2) (eU p3)
    rw [← i7,dd] at h1
    have:(lf p).ms.length=(lifeOf p.1 (br p.2)).ms.length:=rfl
    omega
   have hol:(lf p).os.length≤1000000:=by have:=(HO.out.toji.life hpm).2.2;omega
   have CE:Hid (∀ W,Below wr.heap.size wr W→Calls Tryz.prog 51 #[.slice ae p.2.length ce] W fun en w'=> ∃ v',en=.returned v'∧w'.ownsRow W.heap.size 29 6 v' p.2.length (eh (br p.2))∧Below W.heap.size W w'):=fun W hW=> dI ce (q3.keep (fun _ h=> h) hW.size (fun k _ hk=> hW.block k hk)).at_ (by omega)
   have CM:Hid (∀ (W:World) {a9:Option Addr} (c9:Nat),eK a9 (br p.2) W→Calls Tryz.prog 110 #[.string p.1,.slice a9 (br p.2).length c9] W fun en w'=> ∃ v',en=.returned v'∧bH v' (lf p).ms w'∧Below W.heap.size W w'):=fun W a9 c9 hE=> (io c9 p.1 hE (by rw [dd];omega) (eU p3) (by have:=(bI p4).2;omega)).mono fun en w9 q=> by
     obtain⟨v9,e9,hO⟩:=q
     exact⟨v9,e9,by rw [show(lf p).ms=modsOf p.1 (br p.2)from i7 _ _];exact(bH.of_own hO.own),hO.bel⟩
   have COP:Hid (∀ (W:World) {a9:Option Addr} (c9:Nat),eK a9 (br p.2) W→Calls Tryz.prog 112 #[.slice a9 (br p.2).length c9] W fun en w'=> ∃ v',en=.returned v'∧bH v' (lf p).os w'∧Below W.heap.size W w'):=fun W a9 c9 hE=> (kK c9 hE (by rw [dd];omega)).mono fun en w9 q=> by
     obtain⟨v9,e9,hO⟩:=q
     exact⟨v9,e9,by rw [show(lf p).os=opnsOf (br p.2)from nO _ _];exact(bH.of_own hO.own),hO.bel⟩
   have CHS:=aa (fun(W:World) (v:Value) (hv:bH v (lf p).os W)=> iM hv hol r)
   have HP:=aa hp
   have HPM:=aa hpm
   have HML:=aa hml
   have H13:=aa (ba c10 (ba cQ (ba lb (ba q1 q2))))
   clear hp hpm p1 p2 p3 p4 q1 q3 hml hol
   go_upto_region 9 with(first | (go_at_call 51;refine(CE.out _ (Below.refl _ _)).mono ?_;rintro e w1 ⟨v9,rfl,ho9,hbn⟩;obtain⟨a1,c1,e1,hev⟩:=fz ho9;subst e1;have HEV:=aa hev;have HX1:=aa hbn;have g10:=ag H13.out.1 HX1.out;have gQ:=ar H13.out.2.1 HX1.out.size;have gb:=ar H13.out.2.2.1 HX1.out.size;have g1:=ag H13.out.2.2.2.1 HX1.out;clear ho9 hev hbn) | (go_at_call 110;refine(CM.out _ _ HEV.out).mono ?_;rintro e w2 ⟨v9,rfl,hs9,hbn⟩;obtain⟨am,cm,e2,hmc⟩:=hs9.cells;subst e2;have HMC:=aa hmc;have HX2:=aa (ai HX1.out hbn);have HE2:=aa (HEV.out.step hbn);clear hs9 hmc hbn))
   obtain⟨wo,rfl⟩:∃ wo:World,wo=wr:=⟨_,rfl⟩
   clear g10 gQ gb g1 CE CM
   have HPC:=aa H13.out
   clear c10 cQ H13
   go_wp2_with fail
   go_loopw [15,16] (fun fo jx wr=> ∃ (j:Nat) (fb:Bool),j≤(lf p).ms.length∧jx=.int .i64 j∧fo=.bool fb∧Hid (((lf p).ms.take j).any (pW a bt t0 t1)=fb)∧Hid (Below w2.heap.size w2 wr)) (fun _ jx _=> (lf p).ms.length - (intOf jx).toNat)
   case atStart=> exact⟨0,false,by omega,rfl,rfl,rfl,Below.refl _ _⟩
   case round=>
    obtain⟨j,fb,hj,rfl,rfl,HJ,HX⟩:=hrel
    have HW2:=aa (ai (ai HW.out HX2.out) HX.out)
    have HX0:=aa (Below.refl wr.heap.size wr)
    by_cases hcj:j < (lf p).ms.length
    ·have hml:=HML.out
     have d1:(j:Int) < (lf p).ms.length:=by omega
     have d0:(0:Int)≤j:=by omega
     obtain⟨m,hm⟩:∃ m,(lf p).ms[j]? =some m:=⟨(lf p).ms[j],bh hcj⟩
     have hmm:=aJ hm
     obtain⟨bm,om,eam,hbm,hcm⟩:=HMC.out (by rintro e;rw [e] at hm;cases hm)
     obtain rfl:=eam
     have g7:=ag (hcm j m hm) HX.out
     have l7:=ar hbm HX.out.size
     have hmod:=HO.out.toji.mods HPM.out hmm
     obtain⟨oo,hoo⟩:=HO.out.origin HPM.out hmm
     have hox:=(aB hoo).1
     obtain⟨y,hy0,hym⟩:=HO.out.first (aJ hoo)
     obtain⟨b3,eb3,lb3,-,ae3,ce3,q23,q33⟩:=H.out.pack hoo
     cases eb3
     have hyl:=(aB hy0).1
     have hit:=rC (bt:=bt) (t0:=t0) (t1:=t1) hoo
     obtain⟨⟨mk,mt,ma,mb,mn,mo⟩,hmd⟩:∃ z,(lf oo).made=z:=⟨_,rfl⟩
     obtain⟨be,ee,lbe,hce⟩:=q33.head (k:=mk) (t:=mt) (ea:=ma) (eb:=mb) (n1:=mn) (ot:=mo) hy0 (hym.trans hmd)
     subst ee
     have HME:=aa hce
     have CMO:=aa (fun W=> bS m W (by have:=gJ hmod;omega))
     rw [show rmO m=(cE m).1 from by unfold rmO;rw [aG hmod],hmod] at CMO
     have CF:=aa (CF0.out (cE m).1)
     rw [dM hox] at CF
     have CI:=aa (fun W=> aY mt t0 t1 W)
     have HHT:Hid (((lf p).ms.take (j+1)).any (pW a bt t0 t1)=(fb || (fS mn bt && inB mt t0 t1))):=by unfold Hid;rw [nH hm,HJ.out,hit,hmd,xI,Bool.and_assoc]
     have HO2:=aa (ba HC.out.1 (ba HC.out.2 (ba lb3 (ba q23 lbe))))
     have o0:((findA (cE m).1 a:Nat):Int)≥0:=by omega
     have o1:((findA (cE m).1 a:Nat):Int) < a.ps.length:=by omega
     have oz:(0:Int) < oo.2.length:=by omega
     generalize(cE m).1=o9 at*
     generalize findA o9 a=o at*
     generalize inB mt t0 t1=ib at*
     clear hm hmm hbm hcm hmod hoo hox hy0 hym lb3 q23 q33 hyl hit hmd lbe hce hcj
     go_upto_region 15 with(first | (go_at_call 81;refine(CMO.out _).mono ?_;rintro e w4 ⟨rfl,hbn⟩;have HJ4:=aa (ai HX0.out hbn);clear hbn) | (go_at_call 83;refine(CF.out _ (ai HW2.out HJ4.out)).mono ?_;rintro e w5 ⟨rfl,hbn⟩;have HJ5:=aa (ai HJ4.out hbn);have HMC5:=aa (fun j u hj=> ag (HME.out j u hj) (ai HW2.out HJ5.out));have y10:=ag HO2.out.1 (ai HW2.out HJ5.out);have yQ:=ar HO2.out.2.1 (ai HW2.out HJ5.out).size;have yb:=ar HO2.out.2.2.1 (ai HW2.out HJ5.out).size;have y2:=ag HO2.out.2.2.2.1 (ai HW2.out HJ5.out);have yE:=ar HO2.out.2.2.2.2 (ai HW2.out HJ5.out).size;clear hbn) | (refine wpList_load_mid rfl 29 (.tmp 77) rfl be 0 rfl [.int .i64 mk,.int .i64 mt,.int .i64 ma,.int .i64 mb,.string mn,.string mo] _ HMC5.out Tryz.underlying29 rfl rD ?_))
     have HT3:=aa (au w5 (.cells #[.int .i64 mk,.int .i64 mt,.int .i64 ma,.int .i64 mb,.string mn,.string mo] 29))
     have HX3:=aa (ai HX.out (ai HJ5.out (bU (W:=w5) (o:=(.cells #[.int .i64 mk,.int .i64 mt,.int .i64 ma,.int .i64 mb,.string mn,.string mo] 29)))))
     generalize w5.alloc (.cells #[.int .i64 mk,.int .i64 mt,.int .i64 ma,.int .i64 mb,.string mn,.string mo] 29)=w6 at*
     generalize w5.heap.size=T3 at*
     have z1:=ah (o:=1) HT3.out rfl
     have z4:=ah (o:=4) HT3.out rfl
     have zl:=ak HT3.out
     clear y10 yQ yb y2 yE HMC5 HJ4 HJ5 CMO CF HME HO2 o0 o1 oz g7 l7
     cases fb with
     | true=>
      go_wp2_with fail
      exact⟨⟨j+1,true,by omega,by push_cast;rfl,rfl,by rw [HHT.out];rfl,HX3⟩,by simp [intOf];omega⟩
     | false=>
      cases he:fS mn bt with
      | false=>
       have hz:(mn.toList==bt.toList)=false:=he
       have HV:=aa he
       clear he
       go_wp2_with fail
       exact⟨⟨j+1,false,by omega,by push_cast;rfl,rfl,by rw [HHT.out,HV.out];rfl,HX3⟩,by simp [intOf];omega⟩
      | true=>
       have hz:(mn.toList==bt.toList)=true:=he
       have HV:=aa he
       clear he
       go_wp2_with (go_at_call 109;refine(CI.out _).mono ?_;rintro e w7 ⟨rfl,rfl⟩)
       exact⟨⟨j+1,ib,by omega,by push_cast;rfl,rfl,by show _=_;have q:=HHT.out;rw [HV.out] at q;simpa using q,HX3⟩,by simp [intOf];omega⟩
    ·obtain rfl:j=(lf p).ms.length:=by omega
     have HAL:Hid ((lf p).ms.any (pW a bt t0 t1)=fb):=by have q:=HJ.out;rw [List.take_length] at q;exact q
     have HQ3:=aa (aD (aD HQ.out HX2.out) HX.out)
     have HEJ:=aa (HE2.out.step HX.out)
     clear HJ hcj
     cases fb with
     | false=>
      have HNO:=aa (lY (bt:=bt) (t0:=t0) (t1:=t1) (r:=r) HP.out (by unfold jB;rw [HAL.out,Bool.and_false]))
      have HR5:Hid (wr.ownsRow w.heap.size 3 1 u11 (du a bt t0 t1 r (i+1)).length ((du a bt t0 t1 r (i+1)).map (fun i:Nat=> Value.int .i64 (i:Int)))):=by rw [HNO.out];exact HQ3.out
      go_wp2_with fail
      exact⟨⟨i+1,by omega,by push_cast;rfl,HR5,HW2⟩,by simp [intOf];omega⟩
     | true=>
      obtain⟨hs9,hhs⟩:∃ x,hasT (lf p).os r=x:=⟨_,rfl⟩
      rw [hhs] at CHS
      have HAF:Hid (jB a bt t0 t1 r p= !hs9):=by unfold Hid jB;rw [HAL.out,hhs,Bool.and_true]
      clear hhs
      cases hs9 with
      | true=>
       have HNO:=aa (lY (bt:=bt) (t0:=t0) (t1:=t1) (r:=r) HP.out HAF.out)
       go_wp2_with (first | (go_at_call 112;refine(COP.out _ _ HEJ.out).mono ?_;rintro e w6 ⟨v6,rfl,hs6,hb6⟩;have HS6:=aa hs6;have HB6:=aa (ai HW2.out hb6);have HY6:=aa hb6;clear hs6 hb6) | (go_at_call 111;refine(CHS.out _ _ HS6.out).mono ?_;rintro e w7 ⟨rfl,hb7⟩;have HB7:=aa (ai HB6.out hb7);have HY7:=aa (ai HY6.out hb7);clear hb7))
       have HR5:Hid (w7.ownsRow w.heap.size 3 1 u11 (du a bt t0 t1 r (i+1)).length ((du a bt t0 t1 r (i+1)).map (fun i:Nat=> Value.int .i64 (i:Int)))):=by rw [HNO.out];exact aD HQ3.out HY7.out
       exact⟨⟨i+1,by omega,by push_cast;rfl,HR5,HB7⟩,by simp [intOf];omega⟩
      | false=>
       have HYS:=aa (nt (bt:=bt) (t0:=t0) (t1:=t1) (r:=r) HP.out HAF.out)
       have HLL:=aa (Nat.le_trans (nu (a:=a) (bt:=bt) (t0:=t0) (t1:=t1) (r:=r) (i:=i)) (show i≤100 by omega))
       obtain⟨i0,hi0,hz0,hz1,hz2⟩:=info_parts vL
       have HI0:=aa (ba hi0 (ba hz0 (ba hz1 hz2)))
       clear hi0 hz0 hz1 hz2
       go_upto_region 17 with(first | (go_at_call 112;refine(COP.out _ _ HEJ.out).mono ?_;rintro e w6 ⟨v6,rfl,hs6,hb6⟩;have HS6:=aa hs6;have HB6:=aa (ai HW2.out hb6);have HY6:=aa hb6;clear hs6 hb6) | (go_at_call 111;refine(CHS.out _ _ HS6.out).mono ?_;rintro e w7 ⟨rfl,hb7⟩;have HB7:=aa (ai HB6.out hb7);have HY7:=aa (ai HY6.out hb7);clear hb7))
       have HRW:=aa (aD HQ3.out HY7.out)
       obtain⟨aO,cO,evO⟩:=aP HRW.out
       subst evO
       go_wp2_with (at_builtin;refine bM _ rfl (.tmp 101) (.tmp 103) 189 rfl w.heap.size 3 i0 _ 1 8 Tryz.underlying189 HI0.out.1 HI0.out.2.1 HI0.out.2.2.1 HI0.out.2.2.2 rfl (by decide) _ (du a bt t0 t1 r i).length ((du a bt t0 t1 r i).map (fun i:Nat=> Value.int .i64 (i:Int))) rfl (aD HRW.out bU) (some ⟨w7.heap.size,0,none⟩) 1 1 [.int .i64 (i:Int)] rfl rfl dr (by intro u hu;rw [List.mem_singleton.1 hu];rfl) (by have:=HLL.out;unfold maxLen;omega) (by have:=HLL.out;omega) (by have:=HB7.out.size;simp;omega) ?_;intro v' w8 hown hgrow hat;have HO8:=aa hown;have HB8:Hid (Below w.heap.size w w8):=(aK HB7.out _).grown hgrow (by have:=HB7.out.size;simp;omega) (fun k hk=> (World.ownsRow.lt HRW.out k hk).1);clear hown hgrow hat)
       have HR8:Hid (w8.ownsRow w.heap.size 3 1 v' (du a bt t0 t1 r (i+1)).length ((du a bt t0 t1 r (i+1)).map (fun i:Nat=> Value.int .i64 (i:Int)))):=by rw [HYS.out,cY,List.map_append];exact HO8.out
       exact⟨⟨i+1,by omega,by push_cast;rfl,HR8,HB8⟩,by simp [intOf];omega⟩
  ·obtain rfl:i=a.ps.length:=by omega
   have e9:du a bt t0 t1 r a.ps.length=affA a bt t0 t1 r:=rfl
   rw [e9] at HQ
   obtain⟨aO,cO,evO⟩:=aP HQ.out
   subst evO
   clear hc e9
   go_wp2_with fail
   exact bc (v:=.slice aO (affA a bt t0 t1 r).length cO) (by simp only [results,Tryz.results122];go_simp) rfl ⟨_,rfl,HQ.out,HW.out⟩
end
section
open Go.RowKit
section
variable {P:Program} {ops:Array Oper} {Q:Exit→Act→World→Prop}
def Ad(ops:Array Oper)(N f z:Nat)(E:List (Nat×Nat))(plan:List (Option Nat×List Nat)):Bool:=
 ((List.range N).all fun i=> match ops[i]?,plan[i]? with
 | some o,some p=> (match o.guard with | none=> true | some (j,_)=> (waits ops i).contains j && E.all fun e=> decide (e.1≠j)) && fj o.op && (o.op.operands.all fun x=> match x with
   | .tmp t=> (E.map (·.2)).contains t || (List.range N).all fun j=> decide (aM ops j≠some t) || (waits ops i).contains j
   | _=> true) && ((List.range N).all fun j=> decide (j=i) || decide (aM ops j=none) || decide (aM ops j≠aM ops i)) &&
   (p.2.all fun k=> match E[k]? with | some e=> (waits ops i).contains e.1 || (waits ops i).any fun j=> (jg ops f j).contains e.1 | none=> false) &&
   (match p.1 with | none=> E.all fun e=> decide (e.1≠i) | some k=> (match E[k]? with | some e=> decide (e.1=i) | none=> false))
 | _,_=> false) &&
 ((List.range E.length).all fun k=> match E[k]? with | some e=> decide (e.1 < N) && (decide (aM ops e.1=some e.2) && decide (e.2 < z) || decide (aM ops e.1=none) && decide (z≤e.2)) && decide ((plan[e.1]?).map (·.1)=some (some k)) | none=> false)
structure Ae(ops:Array Oper)(N f:Nat)(E:List (Nat×Nat))(plan:List (Option Nat×List Nat))(i:Nat)(o:Oper)(p:Option Nat×List Nat):Prop where
 plan:plan[i]? =some p
 guard:∀ j want,o.guard=some (j,want)→j∈waits ops i∧∀ e∈E,e.1≠j
 sel:∀ cs b,o.op≠.select cs b
 looks:∀ t,Operand.tmp t∈o.op.operands→t∈E.map (·.2)∨∀ j,j < N→aM ops j=some t→j∈waits ops i
 one:∀ j,j < N→j≠i→aM ops j=none∨aM ops j≠aM ops i
 need:∀ k∈p.2,∃ e,E[k]? =some e∧(e.1∈waits ops i∨∃ j∈waits ops i,e.1∈jg ops f j)
 no:p.1=none→∀ e∈E,e.1≠i
 yes:∀ k,p.1=some k→∃ e,E[k]? =some e∧e.1=i
theorem zp {N f z i:Nat} {E:List (Nat×Nat)} {plan:List (Option Nat×List Nat)} {o:Oper} (h:Ad ops N f z E plan=true)(hi:i < N)(ho:ops[i]? =some o):∃ p,Ae ops N f E plan i o p:=by
 unfold Ad at h
 rw [Bool.and_eq_true] at h
 have h1:=List.all_eq_true.1 h.1 i (List.mem_range.2 hi)
 rw [ho] at h1
 cases hp:plan[i]? with
 | none=> rw [hp] at h1;cases h1
 | some p=>
  rw [hp] at h1
  simp only [Bool.and_eq_true] at h1
  obtain⟨⟨⟨⟨⟨h1,h2⟩,h4⟩,h5⟩,h6⟩,h7⟩:=h1
  refine⟨p,hp,?_,?_,?_,?_,?_,?_,?_⟩
  ·intro j want e
   rw [e] at h1
   simp only [Bool.and_eq_true] at h1
   exact⟨by simpa using h1.1,by simpa using h1.2⟩
  ·intro cs b e;rw [e] at h2;simp [fj] at h2
  ·intro t ht
   rw [Array.all_eq_true'] at h4
   have h8:=h4 (.tmp t) ht
   simp only [Bool.or_eq_true] at h8
   rcases h8 with h8 | h8
   ·exact ax (by simpa using h8)
   ·refine ay fun j hj hd=> ?_
    have h9:=List.all_eq_true.1 h8 j (List.mem_range.2 hj)
    simp only [Bool.or_eq_true,decide_eq_true_eq] at h9
    rcases h9 with h9 | h9
    ·exact absurd hd h9
    ·simpa using h9
  ·intro j hj hne
   have h8:=List.all_eq_true.1 h5 j (List.mem_range.2 hj)
   simp only [Bool.or_eq_true,decide_eq_true_eq] at h8
   rcases h8 with(h8 | h8) | h8
   ·exact absurd h8 hne
   ·exact ax h8
   ·exact ay h8
  ·intro k hk
   have h8:=List.all_eq_true.1 h6 k hk
   cases he:E[k]? with
   | none=> rw [he] at h8;cases h8
   | some e=>
    rw [he] at h8
    simp only [Bool.or_eq_true,List.any_eq_true] at h8
    refine⟨e,rfl,?_⟩
    rcases h8 with h8 | ⟨j,h8,h9⟩
    ·exact ax (by simpa using h8)
    ·exact ay ⟨j,h8,by simpa using h9⟩
  ·intro hn e he
   rw [hn] at h7
   simpa using List.all_eq_true.1 h7 e he
  ·intro k hk
   rw [hk] at h7
   simp only at h7
   cases he:E[k]? with
   | none=> rw [he] at h7;cases h7
   | some e=> rw [he] at h7;exact⟨e,rfl,by simpa using h7⟩
theorem ga {N f z k:Nat} {E:List (Nat×Nat)} {plan:List (Option Nat×List Nat)} {e:Nat×Nat} (h:Ad ops N f z E plan=true)(he:E[k]? =some e):e.1 < N∧(aM ops e.1=some e.2∧e.2 < z∨aM ops e.1=none∧z≤e.2)∧(plan[e.1]?).map (·.1)=some (some k):=by
 unfold Ad at h
 rw [Bool.and_eq_true] at h
 have hk:k < E.length:=(aB he).1
 have h1:=List.all_eq_true.1 h.2 k (List.mem_range.2 hk)
 rw [he] at h1
 simp only [Bool.and_eq_true,Bool.or_eq_true,decide_eq_true_eq] at h1
 exact⟨h1.1.1,h1.1.2,h1.2⟩
def AY(ops:Array Oper)(AF:Act)(o:Oper):Prop:=∃ j want d b,o.guard=some (j,want)∧aM ops j=some d∧AF.tmps[d]? =some (.bool b)∧(b==want)=false
def Aq(ops:Array Oper)(AF:Act)(o:Oper):Prop:=o.guard=none∨∃ j want d,o.guard=some (j,want)∧aM ops j=some d∧AF.tmps[d]? =some (.bool want)
def AZ(P:Program)(ops:Array Oper)(St:List Bool→List Value→World→Prop)(AF:Act)(E:List (Nat×Nat))(need:List Nat)(o:Oper):Prop:=
 (AY ops AF o∧∃ d,o.dst=some d∧AF.tmps[d]? =some undef)∨(Aq ops AF o∧zS P St AF E need o)
def A5(P:Program)(ops:Array Oper)(St:List Bool→List Value→World→Prop)(AF:Act)(E:List (Nat×Nat))(k:Nat)(need:List Nat)(o:Oper):Prop:=Aq ops AF o∧Aw P St AF E k need o
theorem vM {o:Oper} {ts:Array Value} {j d:Nat} {want b:Bool} (h1:o.guard=some (j,want))(h2:aM ops j=some d)(h3:ts[d]? =some (.bool b)):Region.wanted o (yielded ops ts)=(b==want):=by
 unfold Region.wanted yielded
 rw [h1]
 dsimp only
 unfold aM at h2
 rw [h2,Option.bind_some,h3]
 cases b <;> cases want <;> rfl
theorem iY {id:Nat} {a:Act} {w:World} (N f z:Nat)(E:List (Nat×Nat))(plan:List (Option Nat×List Nat))(vals:List (Nat×Value))(St:List Bool→List Value→World→Prop)(hm:P.follows .mixedOrders=true)(he:early ops=true)(hs0:ops.size=N)(hz:a.tmps.size=z)
  (hH:Ad ops N f z E plan=true)
  (hds:vals.map (fun p=> some p.1)=((List.range N).filter fun i=> E.all fun e=> decide (e.1≠i)).map (aM ops))
  (h0:∀ vs,vs.length=E.length→St (E.map fun _=> false) vs w.drew) (each:dp (AZ P ops St (updAll a vals) E) (A5 P ops St (updAll a vals) E) plan ops.toList)
  (done:∀ vs W,vs.length=E.length→St (E.map fun _=> true) vs W→Q .normal (az (updAll a vals) E vs) W):
  (Code.region id ops true).wp P Q a w:=by
 have hidx:∀ j,(E.all fun e=> decide (e.1≠j))=true↔∀ e∈E,e.1≠j:=fun j=> by simp
 have hsame:∀ t,(∀ j,j < N→(∀ e∈E,e.1≠j)→aM ops j≠some t)→(updAll a vals).tmps[t]? =a.tmps[t]?:=fun t ht=> eW _ _ _ fun p hp e=> by
  have h1:some p.1∈vals.map (fun p=> some p.1):=List.mem_map.2 ⟨p,hp,rfl⟩
  rw [hds] at h1
  obtain⟨j,hj,hjd⟩:=List.mem_map.1 h1
  obtain⟨hj1,hj2⟩:=List.mem_filter.1 hj
  exact ht j (List.mem_range.1 hj1) ((hidx j).1 hj2) (by rw [hjd,e])
 have hdf:(updAll a vals).defers=a.defers:=eu _ _
 have hsz:(updAll a vals).tmps.size=a.tmps.size:=eV _ _
 have hob:∀ (i:Nat) (o:Oper) (p:Option Nat×List Nat),ops[i]? =some o→plan[i]? =some p→(match p.1 with | none=> AZ P ops St (updAll a vals) E p.2 o | some k=> A5 P ops St (updAll a vals) E k p.2 o):=fun i o p ho hp=> each.at_ i o p (by
  rw [Array.getElem?_toList];exact ho) hp
 clear each
 generalize updAll a vals=AF at*
 refine jq hm he (fun l x W=> l.size=ops.size∧Shut ops l∧x.defers=a.defers∧x.tmps.size=a.tmps.size∧
  (∀ j,j < N→(∀ e∈E,e.1≠j)→l.getD j false=true→∀ t,aM ops j=some t→x.tmps[t]? =AF.tmps[t]?)∧
  (∀ t,(∀ j,j < N→aM ops j=some t→l.getD j false=false)→x.tmps[t]? =a.tmps[t]?)∧St (E.map fun e=> l.getD e.1 false) (E.map fun e=> x.tmps.getD e.2 undef) W) ?_ (fun l a w h=> h.1) ?_ ?_
 ·refine⟨by simp,?_,rfl,rfl,fun j hj _ h=> ?_,fun _ _=> rfl,?_⟩
  ·intro i hi
   rw [Array.getD_eq_getD_getElem?] at hi
   by_cases h:i < ops.size <;> simp [h] at hi
  ·rw [Array.getD_eq_getD_getElem?] at h
   simp [hs0,hj] at h
  ·have e:∀ k,(Array.replicate ops.size false).getD k false=false:=by
    intro k
    rw [Array.getD_eq_getD_getElem?]
    by_cases h:k < ops.size <;> simp [h]
   simp only [e]
   exact h0 _ (by simp)
 ·rintro i o ho l x W ⟨hs,hS,x1,x2,x3,x4,x5⟩ hl hd
  have hio:i < ops.size:=(Array.getElem?_eq_some_iff.1 ho).1
  have hil:i < l.size:=by rw [hs];exact hio
  have hi:i < N:=by omega
  have hw:=gp ho hd
  have hS2:=hS.set hil hw
  have hs2:(l.setIfInBounds i true).size=ops.size:=by simpa using hs
  have hFx:=gu AF x (by rw [hsz,x2]) E
  obtain⟨p,hC⟩:=zp hH hi ho
  have hev:∀ y∈o.op.operands,x.eval y=(az AF E (E.map fun e=> x.tmps.getD e.2 undef)).eval y:=by
   intro y hy
   refine gq fun t ht=> ?_
   subst ht
   rw [hFx]
   by_cases c1:t∈E.map (·.2)
   ·rw [aG c1]
   ·rw [aA c1]
    rcases hC.looks t hy with c2 | c2
    ·exact absurd c2 c1
    by_cases hc:∃ j,j < N∧aM ops j=some t
    ·obtain⟨j,hj,hjt⟩:=hc
     refine x3 j hj (fun e heE hej=> c1 ?_) (hw j (c2 j hj hjt)) t hjt
     obtain⟨k,hk⟩:=List.getElem?_of_mem heE
     rcases(ga hH hk).2.1 with⟨q,-⟩ | ⟨q,-⟩
     ·rw [hej,hjt] at q
      exact List.mem_map.2 ⟨e,heE,(bD q).symm⟩
     ·rw [hej,hjt] at q
      cases q
    ·have hno:∀ j,j < N→aM ops j≠some t:=fun j hj e=> hc ⟨j,hj,e⟩
     rw [x4 t (fun j hj e=> absurd e (hno j hj)),hsame t (fun j hj _=> hno j hj)]
  have hex:=execOp_congr o hC.sel hev
  have hneed:∀ k∈p.2,(E.map fun e=> l.getD e.1 false).getD k false=true:=by
   intro k hk
   obtain⟨e,he1,he2⟩:=hC.need k hk
   rw [di,bX,he1]
   exact mS hS hw he2
  have hO:=hob i o p ho hC.plan
  have hgv:∀ j want d,o.guard=some (j,want)→aM ops j=some d→x.tmps[d]? =AF.tmps[d]?:=fun j want d h1 h2=> by
   obtain⟨g1,g2⟩:=hC.guard j want h1
   have hj:j < N:=by
    unfold aM at h2
    cases hq:ops[j]? with
    | none=> rw [hq] at h2;cases h2
    | some q=> have:=(Array.getElem?_eq_some_iff.1 hq).1;omega
   exact x3 j hj g2 (hw j g1) d h2
  have hgt:Aq ops AF o→Region.wanted o (yielded ops x.tmps)=true:=fun h=> by
   rcases h with h | ⟨j,want,d,h1,h2,h3⟩
   ·unfold Region.wanted;rw [h]
   ·rw [vM h1 h2 ((hgv j want d h1 h2).trans h3)];cases want <;> rfl
  have hgs:AY ops AF o→Region.wanted o (yielded ops x.tmps)=false:=fun h=> by
   obtain⟨j,want,d,b,h1,h2,h3,h4⟩:=h
   rw [vM h1 h2 ((hgv j want d h1 h2).trans h3)];exact h4
  cases hdo:o.dst with
  | none=>
   have hdi:aM ops i=none:=by unfold aM;rw [ho];exact hdo
   obtain⟨pk,nd⟩:=p
   cases pk with
   | none=>
    rcases hO with⟨-,d',g1,-⟩ | ⟨-,d',v,g1,-⟩
    ·rw [hdo] at g1;cases g1
    ·rw [hdo] at g1;cases g1
   | some k=>
    obtain⟨hGT,hO⟩:=hO
    rcases hO with⟨d',g1,-⟩ | ⟨-,g3⟩
    ·rw [hdo] at g1
     cases g1
    obtain⟨ek,hk,hek⟩:=hC.yes k rfl
    have qk:=ga hH hk
    have hbk:(E.map fun e=> l.getD e.1 false).getD k false=false:=by
     rw [di,bX,hk]
     show l.getD ek.1 false=false
     rw [hek]
     exact ec hl
    have hkl:k < E.length:=(aB hk).1
    have hm:∀ m e,E[m]? =some e→e.1=i→m=k:=by
     intro m e hme h
     have q:=(ga hH hme).2.2
     have q':=qk.2.2
     rw [h] at q
     rw [hek,q] at q'
     exact bD (bD q')
    have q1:(E.map fun e=> (l.setIfInBounds i true).getD e.1 false)=(E.map fun e=> l.getD e.1 false).set k true:=by
     refine List.ext_getElem? fun m=> ?_
     rw [List.getElem?_set,bX,bX]
     cases hE:E[m]? with
     | none=>
      have:E.length≤m:=List.getElem?_eq_none_iff.1 hE
      rw [aA (by omega)];rfl
     | some e=>
      simp only [Option.map_some]
      rw [aZ hil]
      by_cases c:k=m
      ·subst c
       rw [hk] at hE
       obtain rfl:=bD hE
       rw [aG hek.symm,aG rfl,aG (by simpa using hkl)]
      ·rw [aA (fun h=> c (hm m e hE h.symm).symm),aA c]
    unfold wpOp
    rw [ho]
    dsimp only
    rw [aG (hgt hGT)]
    refine ax ?_
    have h1:=g3 _ _ W (by simp) (by simp) hneed hbk x5 (fun a' w'=> a'=az AF E (E.map fun e=> x.tmps.getD e.2 undef)∧St ((E.map fun e=> l.getD e.1 false).set k true) (E.map fun e=> x.tmps.getD e.2 undef) w') (fun _ _ _=> False) (fun W' h=> ⟨rfl,h⟩)
    have h2:o.wp P x W (fun a' w'=> a'=x∧St ((E.map fun e=> l.getD e.1 false).set k true) (E.map fun e=> x.tmps.getD e.2 undef) w') Q:=by
     unfold Oper.wp at h1 ⊢
     rw [hex]
     exact kO hdo h1
    refine Oper.wp_mono ?_ h2
    rintro a' w' ⟨rfl,hv⟩
    refine⟨hs2,hS2,x1,x2,?_,?_,?_⟩
    ·intro j hj m1 hjl t hjt
     have hji:j≠i:=fun c=> by subst c;rw [hdi] at hjt;cases hjt
     rw [aZ hil,aA (fun c=> hji c.symm)] at hjl
     exact x3 j hj m1 hjl t hjt
    ·intro t ht
     refine x4 t fun j hj hjt=> ?_
     have:=ht j hj hjt
     rw [aZ hil] at this
     split at this
     ·cases this
     ·exact this
    ·rw [q1]
     exact hv
  | some d=>
   have hd1:=hdo
   have hdi:aM ops i=some d:=by unfold aM;rw [ho];exact hd1
   have hput:Aq ops AF o→d < a.tmps.size→∀ (C:Value→World→Prop),(∀ (K:Act→World→Prop) (Q:Exit→Act→World→Prop),(∀ v W',C v W'→K ((az AF E (E.map fun e=> x.tmps.getD e.2 undef)).put (some d) v) W')→o.wp P (az AF E (E.map fun e=> x.tmps.getD e.2 undef)) W K Q)→wpOp P ops Q i (fun a' w'=> ∃ v,a'=x.put (some d) v∧C v w') x W:=by
    intro hGT hdlt C hC2
    unfold wpOp
    rw [ho]
    dsimp only
    rw [aG (hgt hGT)]
    refine ax ?_
    have h1:=hC2 (fun a' w'=> ∃ v,a'=(az AF E (E.map fun e=> x.tmps.getD e.2 undef)).put (some d) v∧C v w') (fun _ _ _=> False) (fun v W' h=> ⟨v,rfl,h⟩)
    unfold Oper.wp at h1 ⊢
    rw [hex]
    exact jr hd1 (by rw [gr,hsz];exact hdlt) h1
   have hgd:d < a.tmps.size→∀ (v:Value) (t:Nat),(x.put (some d) v).tmps.getD t undef=if d=t then v else x.tmps.getD t undef:=by
    intro hdlt v t
    rw [Array.getD_eq_getD_getElem?,gd]
    by_cases e:d=t
    ·rw [aG e,aG e,aG (by rw [x2];exact hdlt)];rfl
    ·rw [aA e,aA e,Array.getD_eq_getD_getElem?]
   have hother:d < a.tmps.size→∀ e∈E,e.1≠i→d≠e.2:=by
    intro hdlt e heE hne c
    obtain⟨k,hk⟩:=List.getElem?_of_mem heE
    have q:=ga hH hk
    rcases q.2.1 with⟨q1,-⟩ | ⟨-,q2⟩
    ·rcases hC.one e.1 q.1 hne with h | h
     ·rw [q1] at h;cases h
     ·exact h (by rw [q1,hdi,c])
    ·exact absurd q2 (by rw [← c,← hz];exact Nat.not_le.2 hdlt)
   have hfr:d < a.tmps.size→∀ v W',(p.1=none→AF.tmps[d]? =some v)→St (E.map fun e=> (l.setIfInBounds i true).getD e.1 false) (E.map fun e=> (x.put (some d) v).tmps.getD e.2 undef) W'→
     ((l.setIfInBounds i true).size=ops.size∧Shut ops (l.setIfInBounds i true)∧(x.put (some d) v).defers=a.defers∧(x.put (some d) v).tmps.size=a.tmps.size∧
  (∀ j,j < N→(∀ e∈E,e.1≠j)→(l.setIfInBounds i true).getD j false=true→∀ t,aM ops j=some t→(x.put (some d) v).tmps[t]? =AF.tmps[t]?)∧
  (∀ t,(∀ j,j < N→aM ops j=some t→(l.setIfInBounds i true).getD j false=false)→(x.put (some d) v).tmps[t]? =a.tmps[t]?)∧St (E.map fun e=> (l.setIfInBounds i true).getD e.1 false) (E.map fun e=> (x.put (some d) v).tmps.getD e.2 undef) W'):=by
    intro hdlt v W' hv hSt
    have hlt:d < x.tmps.size:=by rw [x2];exact hdlt
    refine⟨hs2,hS2,x1,by simpa [Act.put] using x2,?_,?_,hSt⟩
    ·intro j hj m1 hjl t hjt
     rw [gd]
     by_cases e:d=t
     ·subst e
      rw [aG rfl,aG hlt]
      have hji:j=i:=Classical.byContradiction fun c=> by
       rcases hC.one j hj c with h | h
       ·rw [hjt] at h;cases h
       ·exact h (by rw [hjt,hdi])
      subst hji
      refine(hv ?_).symm
      cases hp:p.1 with
      | none=> rfl
      | some k=> obtain⟨e,he1,he2⟩:=hC.yes k hp;exact absurd he2 (m1 e (aJ he1))
     ·rw [aA e]
      have hji:j≠i:=fun c=> by subst c;rw [hdi] at hjt;exact e (bD hjt)
      rw [aZ hil,aA (fun c=> hji c.symm)] at hjl
      exact x3 j hj m1 hjl t hjt
    ·intro t ht
     rw [gd]
     have hdt:d≠t:=fun c=> by
      subst c
      have:=ht i hi hdi
      rw [aZ hil,aG rfl] at this
      cases this
     rw [aA hdt]
     refine x4 t fun j hj hjt=> ?_
     have:=ht j hj hjt
     rw [aZ hil] at this
     split at this
     ·cases this
     ·exact this
   obtain⟨pk,nd⟩:=p
   cases pk with
   | none=>
    rcases hO with⟨hGS,d',g1,g2⟩ | ⟨hGT,d',v,g1,g2,g3⟩
    ·rw [hd1] at g1
     obtain rfl:d=d':=bD g1
     have hdlt:d < a.tmps.size:=by
      have:=(Array.getElem?_eq_some_iff.1 g2).1
      rw [hsz] at this
      exact this
     have hE:=hC.no rfl
     unfold wpOp
     rw [ho]
     dsimp only
     rw [hgs hGS,hd1]
     refine hfr hdlt undef W (fun _=> g2) ?_
     have q1:(E.map fun e=> (l.setIfInBounds i true).getD e.1 false)=E.map fun e=> l.getD e.1 false:=List.map_congr_left fun e he=> by
      rw [aZ hil,aA (fun c=> hE e he c.symm)]
     have q2:(E.map fun e=> (x.put (some d) undef).tmps.getD e.2 undef)=E.map fun e=> x.tmps.getD e.2 undef:=List.map_congr_left fun e he=> by
      rw [hgd hdlt,aA (hother hdlt e he (hE e he))]
     rw [q1,q2]
     exact x5
    rw [hd1] at g1
    obtain rfl:d=d':=bD g1
    have hdlt:d < a.tmps.size:=by
     have:=(Array.getElem?_eq_some_iff.1 g2).1
     rw [hsz] at this
     exact this
    have hE:=hC.no rfl
    refine wpOp_mono ?_ (hput hGT hdlt (fun v' W'=> v'=v∧St (E.map fun e=> l.getD e.1 false) (E.map fun e=> x.tmps.getD e.2 undef) W') (fun K Q hK=> g3 _ _ W (by simp) (by simp) hneed x5 K Q (fun W' h=> hK v W' ⟨rfl,h⟩)))
    rintro a' w' ⟨v',rfl,rfl,hv⟩
    refine hfr hdlt v' w' (fun _=> g2) ?_
    have q1:(E.map fun e=> (l.setIfInBounds i true).getD e.1 false)=E.map fun e=> l.getD e.1 false:=List.map_congr_left fun e he=> by
     rw [aZ hil,aA (fun c=> hE e he c.symm)]
    have q2:(E.map fun e=> (x.put (some d) v').tmps.getD e.2 undef)=E.map fun e=> x.tmps.getD e.2 undef:=List.map_congr_left fun e he=> by
     rw [hgd hdlt,aA (hother hdlt e he (hE e he))]
    rw [q1,q2]
    exact hv
   | some k=>
    obtain⟨hGT,hO⟩:=hO
    rcases hO with⟨d',g1,g3⟩ | ⟨g1,-⟩
    rotate_left
    ·rw [hd1] at g1;cases g1
    rw [hd1] at g1
    obtain rfl:d=d':=bD g1
    obtain⟨ek,hk,hek⟩:=hC.yes k rfl
    have qk:=ga hH hk
    have hq:d=ek.2∧ek.2 < z:=by
     rcases qk.2.1 with⟨q1,q2⟩ | ⟨q1,-⟩
     ·rw [hek,hdi] at q1
      exact⟨bD q1,q2⟩
     ·rw [hek,hdi] at q1
      cases q1
    have hde:=hq.1
    have hdlt:d < a.tmps.size:=by rw [hde,hz];exact hq.2
    have hbk:(E.map fun e=> l.getD e.1 false).getD k false=false:=by
     rw [di,bX,hk]
     show l.getD ek.1 false=false
     rw [hek]
     exact ec hl
    refine wpOp_mono ?_ (hput hGT hdlt (fun v' W'=> St ((E.map fun e=> l.getD e.1 false).set k true) ((E.map fun e=> x.tmps.getD e.2 undef).set k v') W') (fun K Q hK=> g3 _ _ W (by simp) (by simp) hneed hbk x5 K Q hK))
    rintro a' w' ⟨v',rfl,hv⟩
    refine hfr hdlt v' w' (fun c=> by cases c) ?_
    have hkl:k < E.length:=(aB hk).1
    have hm:∀ m e,E[m]? =some e→e.1=i→m=k:=by
     intro m e hme h
     have q:=(ga hH hme).2.2
     have q':=qk.2.2
     rw [h] at q
     rw [hek,q] at q'
     exact bD (bD q')
    have q1:(E.map fun e=> (l.setIfInBounds i true).getD e.1 false)=(E.map fun e=> l.getD e.1 false).set k true:=by
     refine List.ext_getElem? fun m=> ?_
     rw [List.getElem?_set,bX,bX]
     cases hE:E[m]? with
     | none=>
      have:E.length≤m:=List.getElem?_eq_none_iff.1 hE
      rw [aA (by omega)];rfl
     | some e=>
      simp only [Option.map_some]
      rw [aZ hil]
      by_cases c:k=m
      ·subst c
       rw [hk] at hE
       obtain rfl:=bD hE
       rw [aG hek.symm,aG rfl,aG (by simpa using hkl)]
      ·rw [aA (fun h=> c (hm m e hE h.symm).symm),aA c]
    have q2:(E.map fun e=> (x.put (some d) v').tmps.getD e.2 undef)=(E.map fun e=> x.tmps.getD e.2 undef).set k v':=by
     refine List.ext_getElem? fun m=> ?_
     rw [List.getElem?_set,bX,bX]
     cases hE:E[m]? with
     | none=>
      have:E.length≤m:=List.getElem?_eq_none_iff.1 hE
      rw [aA (by omega)];rfl
     | some e=>
      simp only [Option.map_some]
      rw [hgd hdlt]
      by_cases c:k=m
      ·subst c
       rw [hk] at hE
       obtain rfl:=bD hE
       rw [aG hde,aG rfl,aG (by simpa using hkl)]
      ·have hne:e.1≠i:=fun h=> c (hm m e hE h).symm
       rw [aA (hother hdlt e (aJ hE) hne),aA c]
    rw [q1,q2]
    exact hv
 ·rintro l x W ⟨hs,hS,x1,x2,x3,x4,x5⟩ hall
  have hall':∀ j,j < N→l.getD j false=true:=fun j hj=> kX (by omega) (hall j (by omega))
  have q1:(E.map fun e=> l.getD e.1 false)=E.map fun _=> true:=List.map_congr_left fun e he=> by
   obtain⟨k,hk⟩:=List.getElem?_of_mem he
   exact hall' e.1 (ga hH hk).1
  rw [q1] at x5
  have hFx:=gu AF x (by rw [hsz,x2]) E
  have hx:x=az AF E (E.map fun e=> x.tmps.getD e.2 undef):=by
   refine nQ (Array.ext_getElem? fun t=> ?_) (by rw [fV,hdf,x1])
   rw [hFx]
   by_cases c1:t∈E.map (·.2)
   ·rw [aG c1]
   ·rw [aA c1]
    by_cases hc:∃ j,j < N∧aM ops j=some t
    ·obtain⟨j,hj,hjt⟩:=hc
     refine x3 j hj (fun e heE hej=> c1 ?_) (hall' j hj) t hjt
     obtain⟨k,hk⟩:=List.getElem?_of_mem heE
     rcases(ga hH hk).2.1 with⟨q,-⟩ | ⟨q,-⟩
     ·rw [hej,hjt] at q
      exact List.mem_map.2 ⟨e,heE,(bD q).symm⟩
     ·rw [hej,hjt] at q
      cases q
    ·have hno:∀ j,j < N→aM ops j≠some t:=fun j hj e=> hc ⟨j,hj,e⟩
     rw [x4 t (fun j hj e=> absurd e (hno j hj)),hsame t (fun j hj _=> hno j hj)]
  have ht:=done _ W (by simp) x5
  rw [← hx] at ht
  exact ht
end
end
section
open Sx Go.RowKit Mr
theorem dh(t:Int):inB t 0 1099511627776=bJ t:=by
 unfold inB bJ
 rw [Bool.eq_iff_iff]
 simp
structure mO(w0:World)(es es2:List bR)(r r2 b0 b1 b2 b3:Bool)(v0 v1 v2 v3:Value)(W:World):Prop where
 bel:Below w0.heap.size w0 W
 o0:b0=true→mi es v0 W
 e1:b1=true→v1=.bool r
 o2:b2=true→mi es2 v2 W
 e3:b3=true→v3=.bool r2
section
variable {w0 W w9:World} {es es2:List bR} {r r2 b0 b1 b2 b3:Bool} {v0 v1 v2 v3 v':Value}
theorem mx.mk0(h:mx w0 es r b0 b1 v0 v1 W)(hb:Below W.heap.size W w9)(hs:mi es v' w9):mx w0 es r true b1 v' v1 w9:=⟨ai h.bel hb,fun _=> hs,h.e1⟩
theorem mx.mk1(h:mx w0 es r b0 b1 v0 v1 W)(hb:Below W.heap.size W w9):mx w0 es r b0 true v0 (.bool r) w9:=⟨ai h.bel hb,fun e=> (h.o0 e).step hb,fun _=> rfl⟩
theorem mO.mk0(h:mO w0 es es2 r r2 b0 b1 b2 b3 v0 v1 v2 v3 W)(hb:Below W.heap.size W w9)(hs:mi es v' w9):mO w0 es es2 r r2 true b1 b2 b3 v' v1 v2 v3 w9:=⟨ai h.bel hb,fun _=> hs,h.e1,fun e=> (h.o2 e).step hb,h.e3⟩
theorem mO.mk1(h:mO w0 es es2 r r2 b0 b1 b2 b3 v0 v1 v2 v3 W)(hb:Below W.heap.size W w9):mO w0 es es2 r r2 b0 true b2 b3 v0 (.bool r) v2 v3 w9:=⟨ai h.bel hb,fun e=> (h.o0 e).step hb,fun _=> rfl,fun e=> (h.o2 e).step hb,h.e3⟩
theorem mO.mk2(h:mO w0 es es2 r r2 b0 b1 b2 b3 v0 v1 v2 v3 W)(hb:Below W.heap.size W w9)(hs:mi es2 v' w9):mO w0 es es2 r r2 b0 b1 true b3 v0 v1 v' v3 w9:=⟨ai h.bel hb,fun e=> (h.o0 e).step hb,h.e1,fun _=> hs,h.e3⟩
theorem mO.mk3(h:mO w0 es es2 r r2 b0 b1 b2 b3 v0 v1 v2 v3 W)(hb:Below W.heap.size W w9):mO w0 es es2 r r2 b0 b1 b2 true v0 v1 v2 (.bool r2) w9:=⟨ai h.bel hb,fun e=> (h.o0 e).step hb,h.e1,fun e=> (h.o2 e).step hb,fun _=> rfl⟩
end
theorem xJ {w0 w:World} {X:Nat→Prop} {Q:Nat} {vb vP:Value} {a:RegA} (h:bC w0 X Q vb a vP w)(ho:dc a)(hd:HdI a)(b t:Int)(m tn:ByteArray)(hs:m.size≤100)(hb:¬ (0≤b∧b < a.bks.length)):
  Calls Tryz.prog 74 #[.pointer (some ⟨Q,0,none⟩),.int .i64 b,.int .i64 t,.string m,.string tn] w fun en w'=> en=.returned (.int .i64 (moveA a b t m tn).1)∧eZ w0 X Q vb (moveA a b t m tn).2 w w':=by
 rw [show moveA a b t m tn=(3,a)from li hb]
 dsimp only
 have hnp:=ho.np
 have H:=aa h
 have HO:=aa ho
 have HD:=aa hd
 have HS:=aa hs
 obtain⟨pa,pc,rfl⟩:=h.pslice
 obtain⟨ab,cb,rfl,-⟩:=h.bk
 have CM:=aa (fun W=> bS m W (by omega))
 have CN:=aa (fun W=> bu tn W)
 have CI:=aa (fun W=> aY t 0 1099511627776 W)
 rw [dh] at CI
 have CW:=aa (fun W (hW:Below w.heap.size w W)=> dt (h.step hW) ho.toji m)
 have CF:=aa (fun W (hW:Below w.heap.size w W)=> cH (h.step hW) tn (by omega))
 have CL:=aa (fun W (hW:Below w.heap.size w W)=> dC (h.step hW) ho.toji b)
 generalize rmO m=o9 at*
 have HC:=aa (ba (ah (o:=1) (v:=.slice ab a.bks.length cb) h.blk rfl) (ba h.cell10 (ak h.blk)))
 have HB:=aa (Below.refl w.heap.size w)
 clear h ho hd hs hnp
 go_enter Tryz.func74,Tryz.ntmps74
 have c1:=ag HC.out.1 HB.out;have c10:=ag HC.out.2.1 HB.out;have cQ:=ar HC.out.2.2 HB.out.size
 clear CM CN CI CW CF CL HO HD HS
 by_cases hn:b < 0
 ·clear hb
  go_wp2_with fail
  exact aH (v:=.int .i64 3) rfl rfl rfl ⟨rfl,H.out.stay HB.out⟩
 ·have hg:b≥(a.bks.length:Int):=by omega
  clear hb
  go_wp2_with fail
  exact aH (v:=.int .i64 3) rfl rfl rfl ⟨rfl,H.out.stay HB.out⟩
theorem vN {w0 w:World} {X:Nat→Prop} {Q:Nat} {vb vP:Value} {a:RegA} (h:bC w0 X Q vb a vP w)(ho:dc a)(hd:HdI a)(b t:Int)(m tn:ByteArray)(hs:m.size≤100)(hb:0≤b∧b < a.bks.length)(h0:modB m=false):
  Calls Tryz.prog 74 #[.pointer (some ⟨Q,0,none⟩),.int .i64 b,.int .i64 t,.string m,.string tn] w fun en w'=> en=.returned (.int .i64 (moveA a b t m tn).1)∧eZ w0 X Q vb (moveA a b t m tn).2 w w':=by
 rw [show moveA a b t m tn=(2,a)from fY hb (by simp [h0])]
 dsimp only
 have hnp:=ho.np
 have H:=aa h
 have HO:=aa ho
 have HD:=aa hd
 have HS:=aa hs
 obtain⟨pa,pc,rfl⟩:=h.pslice
 obtain⟨ab,cb,rfl,-⟩:=h.bk
 have CM:=aa (fun W=> bS m W (by omega))
 have CN:=aa (fun W=> bu tn W)
 have CI:=aa (fun W=> aY t 0 1099511627776 W)
 rw [dh] at CI
 have CW:=aa (fun W (hW:Below w.heap.size w W)=> dt (h.step hW) ho.toji m)
 have CF:=aa (fun W (hW:Below w.heap.size w W)=> cH (h.step hW) tn (by omega))
 have CL:=aa (fun W (hW:Below w.heap.size w W)=> dC (h.step hW) ho.toji b)
 generalize rmO m=o9 at*
 have HC:=aa (ba (ah (o:=1) (v:=.slice ab a.bks.length cb) h.blk rfl) (ba h.cell10 (ak h.blk)))
 have HB:=aa (Below.refl w.heap.size w)
 have hb0:¬ b < 0:=by omega
 have hb1:¬ b≥(a.bks.length:Int):=by omega
 rw [h0] at CM
 clear hb CW CF CL h0
 clear h ho hd hs hnp
 go_enter Tryz.func74,Tryz.ntmps74
 have c1:=ag HC.out.1 HB.out;have c10:=ag HC.out.2.1 HB.out;have cQ:=ar HC.out.2.2 HB.out.size
 go_wp2_with (first | ((first | (go_at_call 81;refine(CM.out _).mono ?_) | (go_at_call 48;refine(CN.out _).mono ?_));rintro e w1 ⟨rfl,hbn⟩;have HB9:=aa (ai HB.out hbn);clear HB hbn;clear c1 c10 cQ;have HB:=HB9;clear HB9;have c1:=ag HC.out.1 HB.out;have c10:=ag HC.out.2.1 HB.out;have cQ:=ar HC.out.2.2 HB.out.size) | (go_at_call 109;refine(CI.out _).mono ?_;rintro e w1 ⟨rfl,rfl⟩))
 exact aH (v:=.int .i64 2) rfl rfl rfl ⟨rfl,H.out.stay HB.out⟩
theorem vO {w0 w:World} {X:Nat→Prop} {Q:Nat} {vb vP:Value} {a:RegA} (h:bC w0 X Q vb a vP w)(ho:dc a)(hd:HdI a)(b t:Int)(m tn:ByteArray)(hs:m.size≤100)(hb:0≤b∧b < a.bks.length)(h0:modB m=true)(h1:nameB tn=false):
  Calls Tryz.prog 74 #[.pointer (some ⟨Q,0,none⟩),.int .i64 b,.int .i64 t,.string m,.string tn] w fun en w'=> en=.returned (.int .i64 (moveA a b t m tn).1)∧eZ w0 X Q vb (moveA a b t m tn).2 w w':=by
 rw [show moveA a b t m tn=(2,a)from fY hb (by simp [h1])]
 dsimp only
 have hnp:=ho.np
 have H:=aa h
 have HO:=aa ho
 have HD:=aa hd
 have HS:=aa hs
 obtain⟨pa,pc,rfl⟩:=h.pslice
 obtain⟨ab,cb,rfl,-⟩:=h.bk
 have CM:=aa (fun W=> bS m W (by omega))
 have CN:=aa (fun W=> bu tn W)
 have CI:=aa (fun W=> aY t 0 1099511627776 W)
 rw [dh] at CI
 have CW:=aa (fun W (hW:Below w.heap.size w W)=> dt (h.step hW) ho.toji m)
 have CF:=aa (fun W (hW:Below w.heap.size w W)=> cH (h.step hW) tn (by omega))
 have CL:=aa (fun W (hW:Below w.heap.size w W)=> dC (h.step hW) ho.toji b)
 generalize rmO m=o9 at*
 have HC:=aa (ba (ah (o:=1) (v:=.slice ab a.bks.length cb) h.blk rfl) (ba h.cell10 (ak h.blk)))
 have HB:=aa (Below.refl w.heap.size w)
 have hb0:¬ b < 0:=by omega
 have hb1:¬ b≥(a.bks.length:Int):=by omega
 rw [h0] at CM
 rw [h1] at CN
 clear hb CW CF CL h0 h1
 clear h ho hd hs hnp
 go_enter Tryz.func74,Tryz.ntmps74
 have c1:=ag HC.out.1 HB.out;have c10:=ag HC.out.2.1 HB.out;have cQ:=ar HC.out.2.2 HB.out.size
 go_wp2_with (first | ((first | (go_at_call 81;refine(CM.out _).mono ?_) | (go_at_call 48;refine(CN.out _).mono ?_));rintro e w1 ⟨rfl,hbn⟩;have HB9:=aa (ai HB.out hbn);clear HB hbn;clear c1 c10 cQ;have HB:=HB9;clear HB9;have c1:=ag HC.out.1 HB.out;have c10:=ag HC.out.2.1 HB.out;have cQ:=ar HC.out.2.2 HB.out.size) | (go_at_call 109;refine(CI.out _).mono ?_;rintro e w1 ⟨rfl,rfl⟩))
 exact aH (v:=.int .i64 2) rfl rfl rfl ⟨rfl,H.out.stay HB.out⟩
theorem vQ {w0 w:World} {X:Nat→Prop} {Q:Nat} {vb vP:Value} {a:RegA} (h:bC w0 X Q vb a vP w)(ho:dc a)(hd:HdI a)(b t:Int)(m tn:ByteArray)(hs:m.size≤100)(hb:0≤b∧b < a.bks.length)(h0:modB m=true)(h1:nameB tn=true)(h2:bJ t=false):
  Calls Tryz.prog 74 #[.pointer (some ⟨Q,0,none⟩),.int .i64 b,.int .i64 t,.string m,.string tn] w fun en w'=> en=.returned (.int .i64 (moveA a b t m tn).1)∧eZ w0 X Q vb (moveA a b t m tn).2 w w':=by
 rw [show moveA a b t m tn=(2,a)from fY hb (by simp [h2])]
 dsimp only
 have hnp:=ho.np
 have H:=aa h
 have HO:=aa ho
 have HD:=aa hd
 have HS:=aa hs
 obtain⟨pa,pc,rfl⟩:=h.pslice
 obtain⟨ab,cb,rfl,-⟩:=h.bk
 have CM:=aa (fun W=> bS m W (by omega))
 have CN:=aa (fun W=> bu tn W)
 have CI:=aa (fun W=> aY t 0 1099511627776 W)
 rw [dh] at CI
 have CW:=aa (fun W (hW:Below w.heap.size w W)=> dt (h.step hW) ho.toji m)
 have CF:=aa (fun W (hW:Below w.heap.size w W)=> cH (h.step hW) tn (by omega))
 have CL:=aa (fun W (hW:Below w.heap.size w W)=> dC (h.step hW) ho.toji b)
 generalize rmO m=o9 at*
 have HC:=aa (ba (ah (o:=1) (v:=.slice ab a.bks.length cb) h.blk rfl) (ba h.cell10 (ak h.blk)))
 have HB:=aa (Below.refl w.heap.size w)
 have hb0:¬ b < 0:=by omega
 have hb1:¬ b≥(a.bks.length:Int):=by omega
 rw [h0] at CM
 rw [h1] at CN
 rw [h2] at CI
 clear hb CW CF CL h0 h1 h2
 clear h ho hd hs hnp
 go_enter Tryz.func74,Tryz.ntmps74
 have c1:=ag HC.out.1 HB.out;have c10:=ag HC.out.2.1 HB.out;have cQ:=ar HC.out.2.2 HB.out.size
 go_wp2_with (first | ((first | (go_at_call 81;refine(CM.out _).mono ?_) | (go_at_call 48;refine(CN.out _).mono ?_));rintro e w1 ⟨rfl,hbn⟩;have HB9:=aa (ai HB.out hbn);clear HB hbn;clear c1 c10 cQ;have HB:=HB9;clear HB9;have c1:=ag HC.out.1 HB.out;have c10:=ag HC.out.2.1 HB.out;have cQ:=ar HC.out.2.2 HB.out.size) | (go_at_call 109;refine(CI.out _).mono ?_;rintro e w1 ⟨rfl,rfl⟩))
 exact aH (v:=.int .i64 2) rfl rfl rfl ⟨rfl,H.out.stay HB.out⟩
theorem xK {w0 w:World} {X:Nat→Prop} {Q:Nat} {vb vP:Value} {a:RegA} (h:bC w0 X Q vb a vP w)(ho:dc a)(hd:HdI a)(b t:Int)(m tn:ByteArray)(hs:m.size≤100)(hb:0≤b∧b < a.bks.length)(hv:modB m=true∧nameB tn=true∧bJ t=true)(hi:¬ whereA m a < a.ps.length):
  Calls Tryz.prog 74 #[.pointer (some ⟨Q,0,none⟩),.int .i64 b,.int .i64 t,.string m,.string tn] w fun en w'=> en=.returned (.int .i64 (moveA a b t m tn).1)∧eZ w0 X Q vb (moveA a b t m tn).2 w w':=by
 rw [show moveA a b t m tn=(5,a)from fZ hb hv (ax (List.getElem?_eq_none (by omega)))]
 dsimp only
 have hnp:=ho.np
 have H:=aa h
 have HO:=aa ho
 have HD:=aa hd
 have HS:=aa hs
 obtain⟨pa,pc,rfl⟩:=h.pslice
 obtain⟨ab,cb,rfl,-⟩:=h.bk
 have CM:=aa (fun W=> bS m W (by omega))
 have CN:=aa (fun W=> bu tn W)
 have CI:=aa (fun W=> aY t 0 1099511627776 W)
 rw [dh] at CI
 have CW:=aa (fun W (hW:Below w.heap.size w W)=> dt (h.step hW) ho.toji m)
 have CF:=aa (fun W (hW:Below w.heap.size w W)=> cH (h.step hW) tn (by omega))
 have CL:=aa (fun W (hW:Below w.heap.size w W)=> dC (h.step hW) ho.toji b)
 generalize rmO m=o9 at*
 have HC:=aa (ba (ah (o:=1) (v:=.slice ab a.bks.length cb) h.blk rfl) (ba h.cell10 (ak h.blk)))
 have HB:=aa (Below.refl w.heap.size w)
 have hb0:¬ b < 0:=by omega
 have hb1:¬ b≥(a.bks.length:Int):=by omega
 rw [hv.1] at CM
 rw [hv.2.1] at CN
 rw [hv.2.2] at CI
 rw [im hi] at CW
 generalize hf9:zb (findA tn a) a.ps.length=f9 at*
 clear hf9
 clear hb hv hi
 clear h ho hd hs hnp
 go_enter Tryz.func74,Tryz.ntmps74
 have c1:=ag HC.out.1 HB.out;have c10:=ag HC.out.2.1 HB.out;have cQ:=ar HC.out.2.2 HB.out.size
 go_wp2_with (first | ((first | (go_at_call 81;refine(CM.out _).mono ?_) | (go_at_call 48;refine(CN.out _).mono ?_) | (go_at_call 82;refine(CW.out _ HB.out).mono ?_) | (go_at_call 83;refine(CF.out _ HB.out).mono ?_));rintro e w1 ⟨rfl,hbn⟩;have HB9:=aa (ai HB.out hbn);clear HB hbn;clear c1 c10 cQ;have HB:=HB9;clear HB9;have c1:=ag HC.out.1 HB.out;have c10:=ag HC.out.2.1 HB.out;have cQ:=ar HC.out.2.2 HB.out.size) | (go_at_call 109;refine(CI.out _).mono ?_;rintro e w1 ⟨rfl,rfl⟩))
 exact aH (v:=.int .i64 5) rfl rfl rfl ⟨rfl,H.out.stay HB.out⟩
theorem xM {w0 w:World} {X:Nat→Prop} {Q:Nat} {vb vP:Value} {a:RegA} (h:bC w0 X Q vb a vP w)(ho:dc a)(hd:HdI a)(b t:Int)(m tn:ByteArray)(hs:m.size≤100)(hb:0≤b∧b < a.bks.length)(hv:modB m=true∧nameB tn=true∧bJ t=true)(hi:whereA m a < a.ps.length)(hk:¬ findA tn a < a.ps.length):
  Calls Tryz.prog 74 #[.pointer (some ⟨Q,0,none⟩),.int .i64 b,.int .i64 t,.string m,.string tn] w fun en w'=> en=.returned (.int .i64 (moveA a b t m tn).1)∧eZ w0 X Q vb (moveA a b t m tn).2 w w':=by
 rw [show moveA a b t m tn=(5,a)from fZ hb hv (ay (List.getElem?_eq_none (by omega)))]
 dsimp only
 have hnp:=ho.np
 have H:=aa h
 have HO:=aa ho
 have HD:=aa hd
 have HS:=aa hs
 obtain⟨pa,pc,rfl⟩:=h.pslice
 obtain⟨ab,cb,rfl,-⟩:=h.bk
 have CM:=aa (fun W=> bS m W (by omega))
 have CN:=aa (fun W=> bu tn W)
 have CI:=aa (fun W=> aY t 0 1099511627776 W)
 rw [dh] at CI
 have CW:=aa (fun W (hW:Below w.heap.size w W)=> dt (h.step hW) ho.toji m)
 have CF:=aa (fun W (hW:Below w.heap.size w W)=> cH (h.step hW) tn (by omega))
 have CL:=aa (fun W (hW:Below w.heap.size w W)=> dC (h.step hW) ho.toji b)
 generalize rmO m=o9 at*
 have HC:=aa (ba (ah (o:=1) (v:=.slice ab a.bks.length cb) h.blk rfl) (ba h.cell10 (ak h.blk)))
 have HB:=aa (Below.refl w.heap.size w)
 have hb0:¬ b < 0:=by omega
 have hb1:¬ b≥(a.bks.length:Int):=by omega
 rw [hv.1] at CM
 rw [hv.2.1] at CN
 rw [hv.2.2] at CI
 rw [dM hi] at CW
 have i0:¬ ((whereA m a:Nat):Int) < 0:=by omega
 rw [im hk] at CF
 generalize whereA m a=i at*
 clear hb hv hi hk
 clear h ho hd hs hnp
 go_enter Tryz.func74,Tryz.ntmps74
 have c1:=ag HC.out.1 HB.out;have c10:=ag HC.out.2.1 HB.out;have cQ:=ar HC.out.2.2 HB.out.size
 go_wp2_with (first | ((first | (go_at_call 81;refine(CM.out _).mono ?_) | (go_at_call 48;refine(CN.out _).mono ?_) | (go_at_call 82;refine(CW.out _ HB.out).mono ?_) | (go_at_call 83;refine(CF.out _ HB.out).mono ?_));rintro e w1 ⟨rfl,hbn⟩;have HB9:=aa (ai HB.out hbn);clear HB hbn;clear c1 c10 cQ;have HB:=HB9;clear HB9;have c1:=ag HC.out.1 HB.out;have c10:=ag HC.out.2.1 HB.out;have cQ:=ar HC.out.2.2 HB.out.size) | (go_at_call 109;refine(CI.out _).mono ?_;rintro e w1 ⟨rfl,rfl⟩))
 exact aH (v:=.int .i64 5) rfl rfl rfl ⟨rfl,H.out.stay HB.out⟩
theorem xN {w0 w:World} {X:Nat→Prop} {Q:Nat} {vb vP:Value} {a:RegA} (h:bC w0 X Q vb a vP w)(ho:dc a)(hd:HdI a)(b t:Int)(m tn:ByteArray)(hs:m.size≤100)(hb:0≤b∧b < a.bks.length)(hv:modB m=true∧nameB tn=true∧bJ t=true)(p q:ByteArray×List bR)(hp:a.ps[whereA m a]? =some p)(hq:a.ps[findA tn a]? =some q)(h6:whereA m a=findA tn a):
  Calls Tryz.prog 74 #[.pointer (some ⟨Q,0,none⟩),.int .i64 b,.int .i64 t,.string m,.string tn] w fun en w'=> en=.returned (.int .i64 (moveA a b t m tn).1)∧eZ w0 X Q vb (moveA a b t m tn).2 w w':=by
 rw [show moveA a b t m tn=(10,a)from by rw [ik hb hv hp hq,aG (ax h6)]]
 dsimp only
 have hnp:=ho.np
 have H:=aa h
 have HO:=aa ho
 have HD:=aa hd
 have HS:=aa hs
 obtain⟨pa,pc,rfl⟩:=h.pslice
 obtain⟨ab,cb,rfl,-⟩:=h.bk
 have CM:=aa (fun W=> bS m W (by omega))
 have CN:=aa (fun W=> bu tn W)
 have CI:=aa (fun W=> aY t 0 1099511627776 W)
 rw [dh] at CI
 have CW:=aa (fun W (hW:Below w.heap.size w W)=> dt (h.step hW) ho.toji m)
 have CF:=aa (fun W (hW:Below w.heap.size w W)=> cH (h.step hW) tn (by omega))
 have CL:=aa (fun W (hW:Below w.heap.size w W)=> dC (h.step hW) ho.toji b)
 generalize rmO m=o9 at*
 have HC:=aa (ba (ah (o:=1) (v:=.slice ab a.bks.length cb) h.blk rfl) (ba h.cell10 (ak h.blk)))
 have HB:=aa (Below.refl w.heap.size w)
 have hb0:¬ b < 0:=by omega
 have hb1:¬ b≥(a.bks.length:Int):=by omega
 rw [hv.1] at CM
 rw [hv.2.1] at CN
 rw [hv.2.2] at CI
 have hi:=(aB hp).1
 have hk:=(aB hq).1
 rw [dM hi] at CW
 have i0:¬ ((whereA m a:Nat):Int) < 0:=by omega
 rw [dM hk] at CF
 have k0:¬ ((findA tn a:Nat):Int) < 0:=by omega
 have i1:((whereA m a:Nat):Int) < a.ps.length:=by omega
 have k1:((findA tn a:Nat):Int) < a.ps.length:=by omega
 have i2:(0:Int)≤((whereA m a:Nat):Int):=by omega
 have k2:(0:Int)≤((findA tn a:Nat):Int):=by omega
 have hqn:=kj hq
 obtain⟨b9,e9,lb9,q1,ae,ce,q2,q3⟩:=h.pack hp
 subst e9
 obtain⟨b8,e8,lb8,r1,ae2,ce2,r2,r3⟩:=h.pack hq
 cases e8
 clear lb8
 obtain⟨p1,p2,p3,p4⟩:=ho.p p (aJ hp)
 obtain⟨s1,s2,s3,s4⟩:=ho.p q (aJ hq)
 have HQ:=aa (ba q1 (ba q2 (ba r1 (ba r2 lb9))))
 clear hb hv hp hq hi hk q1 q2 q3 r1 r2 r3 lb9 p1 p2 p3 p4 s1 s2 s3 s4 hqn
 rw [← h6] at*
 clear h6
 generalize whereA m a=i at*
 clear h ho hd hs hnp
 go_enter Tryz.func74,Tryz.ntmps74
 have c1:=ag HC.out.1 HB.out;have c10:=ag HC.out.2.1 HB.out;have cQ:=ar HC.out.2.2 HB.out.size
 go_upto_region 10 with(first | ((first | (go_at_call 81;refine(CM.out _).mono ?_) | (go_at_call 48;refine(CN.out _).mono ?_) | (go_at_call 82;refine(CW.out _ HB.out).mono ?_) | (go_at_call 83;refine(CF.out _ HB.out).mono ?_));rintro e w1 ⟨rfl,hbn⟩;have HB9:=aa (ai HB.out hbn);clear HB hbn;clear c1 c10 cQ;have HB:=HB9;clear HB9;have c1:=ag HC.out.1 HB.out;have c10:=ag HC.out.2.1 HB.out;have cQ:=ar HC.out.2.2 HB.out.size) | (go_at_call 109;refine(CI.out _).mono ?_;rintro e w1 ⟨rfl,rfl⟩))
 have y1:=ag HQ.out.1 HB.out;have y2:=ag HQ.out.2.1 HB.out;have y3:=ag HQ.out.2.2.1 HB.out;have y4:=ag HQ.out.2.2.2.1 HB.out;have yb:=ar HQ.out.2.2.2.2 HB.out.size
 go_upto_region 12 with fail
 have HT1:=aa (an (au w1 (.cells #[.int .i64 6,.int .i64 t,.int .i64 0,.int .i64 0,.string m,.string tn] 29)) (bU (o:=(.cells #[.int .i64 5,.int .i64 t,.int .i64 0,.int .i64 0,.string m,.string p.1] 29))))
 have HT2:Hid (((w1.alloc (.cells #[.int .i64 6,.int .i64 t,.int .i64 0,.int .i64 0,.string m,.string tn] 29)).alloc (.cells #[.int .i64 5,.int .i64 t,.int .i64 0,.int .i64 0,.string m,.string p.1] 29)).heap[w1.heap.size+1]? =some (.cells #[.int .i64 5,.int .i64 t,.int .i64 0,.int .i64 0,.string m,.string p.1] 29 (0,0))):=by
  have h9:=au (w1.alloc (.cells #[.int .i64 6,.int .i64 t,.int .i64 0,.int .i64 0,.string m,.string tn] 29)) (.cells #[.int .i64 5,.int .i64 t,.int .i64 0,.int .i64 0,.string m,.string p.1] 29)
  rw [show(w1.alloc (.cells #[.int .i64 6,.int .i64 t,.int .i64 0,.int .i64 0,.string m,.string tn] 29)).heap.size=w1.heap.size+1 by simp] at h9
  exact h9
 have HB2:Hid (Below w.heap.size w ((w1.alloc (.cells #[.int .i64 6,.int .i64 t,.int .i64 0,.int .i64 0,.string m,.string tn] 29)).alloc (.cells #[.int .i64 5,.int .i64 t,.int .i64 0,.int .i64 0,.string m,.string p.1] 29))):=ai HB.out (aK bU _)
 have HTL:=aa HB.out.size
 generalize(w1.alloc (.cells #[.int .i64 6,.int .i64 t,.int .i64 0,.int .i64 0,.string m,.string tn] 29)).alloc (.cells #[.int .i64 5,.int .i64 t,.int .i64 0,.int .i64 0,.string m,.string p.1] 29)=W2 at*
 generalize w1.heap.size=T1 at*
 clear c1 c10 cQ
 clear y1 y2 y3 y4 yb
 clear HB
 have HB:=HB2
 clear HB2
 refine aF (by kernel_rfl) (by kernel_rfl) ?_
 repeat(first | (refine WQ.skip rfl rfl rfl rfl ?_;simp only [Act.put,aU,aV,aW,aX]) | ((first | (apply WQ.val;(exact rfl)) | (apply WQ.valg;(exact rfl);(exact rfl);(exact rfl)));(intro w9 hw9;obtain⟨s9,rfl⟩:=hw9;simp [go_sem];first | done | exact rfl);simp only [Act.put,aU,aV,aW,aX]))
 refine WQ.fin fun W4 hbn=> ?_
 have HB9:=aa (ai HB.out hbn)
 go_wp2_with fail
 exact aH (v:=.int .i64 10) rfl rfl rfl ⟨rfl,H.out.stay HB9.out⟩
theorem xO {w0 w:World} {X:Nat→Prop} {Q:Nat} {vb vP:Value} {a:RegA} (h:bC w0 X Q vb a vP w)(ho:dc a)(hd:HdI a)(b t:Int)(m tn:ByteArray)(hs:m.size≤100)(hb:0≤b∧b < a.bks.length)(hv:modB m=true∧nameB tn=true∧bJ t=true)(p q:ByteArray×List bR)(hp:a.ps[whereA m a]? =some p)(hq:a.ps[findA tn a]? =some q)(h6:whereA m a≠findA tn a)(h7:cg p.1 (lf p) (bE t m tn)=false):
  Calls Tryz.prog 74 #[.pointer (some ⟨Q,0,none⟩),.int .i64 b,.int .i64 t,.string m,.string tn] w fun en w'=> en=.returned (.int .i64 (moveA a b t m tn).1)∧eZ w0 X Q vb (moveA a b t m tn).2 w w':=by
 rw [show moveA a b t m tn=(10,a)from by rw [ik hb hv hp hq,aG (ay (ax h7))]]
 dsimp only
 have hnp:=ho.np
 have H:=aa h
 have HO:=aa ho
 have HD:=aa hd
 have HS:=aa hs
 obtain⟨pa,pc,rfl⟩:=h.pslice
 obtain⟨ab,cb,rfl,-⟩:=h.bk
 have CM:=aa (fun W=> bS m W (by omega))
 have CN:=aa (fun W=> bu tn W)
 have CI:=aa (fun W=> aY t 0 1099511627776 W)
 rw [dh] at CI
 have CW:=aa (fun W (hW:Below w.heap.size w W)=> dt (h.step hW) ho.toji m)
 have CF:=aa (fun W (hW:Below w.heap.size w W)=> cH (h.step hW) tn (by omega))
 have CL:=aa (fun W (hW:Below w.heap.size w W)=> dC (h.step hW) ho.toji b)
 generalize rmO m=o9 at*
 have HC:=aa (ba (ah (o:=1) (v:=.slice ab a.bks.length cb) h.blk rfl) (ba h.cell10 (ak h.blk)))
 have HB:=aa (Below.refl w.heap.size w)
 have hb0:¬ b < 0:=by omega
 have hb1:¬ b≥(a.bks.length:Int):=by omega
 rw [hv.1] at CM
 rw [hv.2.1] at CN
 rw [hv.2.2] at CI
 have hi:=(aB hp).1
 have hk:=(aB hq).1
 rw [dM hi] at CW
 have i0:¬ ((whereA m a:Nat):Int) < 0:=by omega
 rw [dM hk] at CF
 have k0:¬ ((findA tn a:Nat):Int) < 0:=by omega
 have i1:((whereA m a:Nat):Int) < a.ps.length:=by omega
 have k1:((findA tn a:Nat):Int) < a.ps.length:=by omega
 have i2:(0:Int)≤((whereA m a:Nat):Int):=by omega
 have k2:(0:Int)≤((findA tn a:Nat):Int):=by omega
 have hqn:=kj hq
 obtain⟨b9,e9,lb9,q1,ae,ce,q2,q3⟩:=h.pack hp
 subst e9
 obtain⟨b8,e8,lb8,r1,ae2,ce2,r2,r3⟩:=h.pack hq
 cases e8
 clear lb8
 obtain⟨p1,p2,p3,p4⟩:=ho.p p (aJ hp)
 obtain⟨s1,s2,s3,s4⟩:=ho.p q (aJ hq)
 have HQ:=aa (ba q1 (ba q2 (ba r1 (ba r2 lb9))))
 have CE1:Hid (∀ W0 W:World,Below w.heap.size w W0→Below W0.heap.size W0 W→Calls Tryz.prog 51 #[.slice ae p.2.length ce] W fun en w'=> ∃ v',en=.returned v'∧w'.ownsRow W.heap.size 29 6 v' p.2.length (eh (br p.2))∧Below W.heap.size W w'):=fun W0 W h0 hW=> dI ce (q3.keep (fun _ h=> h) (ai h0 hW).size (fun k _ hk=> (ai h0 hW).block k hk)).at_ (by omega)
 have CE2:Hid (∀ W0 W:World,Below w.heap.size w W0→Below W0.heap.size W0 W→Calls Tryz.prog 51 #[.slice ae2 q.2.length ce2] W fun en w'=> ∃ v',en=.returned v'∧w'.ownsRow W.heap.size 29 6 v' q.2.length (eh (br q.2))∧Below W.heap.size W w'):=fun W0 W h0 hW=> dI ce2 (r3.keep (fun _ h=> h) (ai h0 hW).size (fun k _ hk=> (ai h0 hW).block k hk)).at_ (by omega)
 obtain⟨ra,hra⟩:∃ r9,cg p.1 (lf p) (bE t m tn)=r9:=⟨_,rfl⟩
 have CC1:Hid (∀ (W:World) (a9:Option Addr) (c9:Nat),eK a9 (br p.2) W→Calls Tryz.prog 50 #[.string p.1,.slice a9 (br p.2).length c9,.agg #[.int .i64 6,.int .i64 t,.int .i64 0,.int .i64 0,.string m,.string tn]] W fun en w'=> en=.returned (.bool ra)∧Below W.heap.size W w'):=fun W a9 c9 hE=> by
  have h9:=gY (w:=W) c9 p.1 hE (by rw [dd];omega) (eU p3) (by have:=(bI p4).2;omega) (bE t m tn)
  rw [← fC p2,show cg p.1 (lifeOf p.1 (br p.2)) (bE t m tn)=ra from hra] at h9
  exact h9
 obtain⟨rb,hrb⟩:∃ r9,cg q.1 (lf q) (cf t m p.1)=r9:=⟨_,rfl⟩
 have CC2:Hid (∀ (W:World) (a9:Option Addr) (c9:Nat),eK a9 (br q.2) W→Calls Tryz.prog 50 #[.string tn,.slice a9 (br q.2).length c9,.agg #[.int .i64 5,.int .i64 t,.int .i64 0,.int .i64 0,.string m,.string p.1]] W fun en w'=> en=.returned (.bool rb)∧Below W.heap.size W w'):=fun W a9 c9 hE=> by
  have h9:=gY (w:=W) c9 q.1 hE (by rw [dd];omega) (eU s3) (by have:=(bI s4).2;omega) (cf t m p.1)
  rw [← fC s2,show cg q.1 (lifeOf q.1 (br q.2)) (cf t m p.1)=rb from hrb,hqn] at h9
  exact h9
 have hne:((whereA m a:Nat):Int)≠(findA tn a:Nat):=fun c=> h6 (by omega)
 have hnb:(((whereA m a:Nat):Int)==(findA tn a:Nat))=false:=by simpa using hne
 clear hne
 rw [show ra=false from by rw [← hra];exact h7] at CC1
 clear h6 h7 hra hrb
 clear hb hv hp hq hi hk q1 q2 q3 r1 r2 r3 lb9 p1 p2 p3 p4 s1 s2 s3 s4 hqn
 generalize whereA m a=i at*
 generalize findA tn a=k at*
 clear h ho hd hs hnp
 go_enter Tryz.func74,Tryz.ntmps74
 have c1:=ag HC.out.1 HB.out;have c10:=ag HC.out.2.1 HB.out;have cQ:=ar HC.out.2.2 HB.out.size
 go_upto_region 10 with(first | ((first | (go_at_call 81;refine(CM.out _).mono ?_) | (go_at_call 48;refine(CN.out _).mono ?_) | (go_at_call 82;refine(CW.out _ HB.out).mono ?_) | (go_at_call 83;refine(CF.out _ HB.out).mono ?_));rintro e w1 ⟨rfl,hbn⟩;have HB9:=aa (ai HB.out hbn);clear HB hbn;clear c1 c10 cQ;have HB:=HB9;clear HB9;have c1:=ag HC.out.1 HB.out;have c10:=ag HC.out.2.1 HB.out;have cQ:=ar HC.out.2.2 HB.out.size) | (go_at_call 109;refine(CI.out _).mono ?_;rintro e w1 ⟨rfl,rfl⟩))
 have y1:=ag HQ.out.1 HB.out;have y2:=ag HQ.out.2.1 HB.out;have y3:=ag HQ.out.2.2.1 HB.out;have y4:=ag HQ.out.2.2.2.1 HB.out;have yb:=ar HQ.out.2.2.2.2 HB.out.size
 go_upto_region 12 with fail
 have HT1:=aa (an (au w1 (.cells #[.int .i64 6,.int .i64 t,.int .i64 0,.int .i64 0,.string m,.string tn] 29)) (bU (o:=(.cells #[.int .i64 5,.int .i64 t,.int .i64 0,.int .i64 0,.string m,.string p.1] 29))))
 have HT2:Hid (((w1.alloc (.cells #[.int .i64 6,.int .i64 t,.int .i64 0,.int .i64 0,.string m,.string tn] 29)).alloc (.cells #[.int .i64 5,.int .i64 t,.int .i64 0,.int .i64 0,.string m,.string p.1] 29)).heap[w1.heap.size+1]? =some (.cells #[.int .i64 5,.int .i64 t,.int .i64 0,.int .i64 0,.string m,.string p.1] 29 (0,0))):=by
  have h9:=au (w1.alloc (.cells #[.int .i64 6,.int .i64 t,.int .i64 0,.int .i64 0,.string m,.string tn] 29)) (.cells #[.int .i64 5,.int .i64 t,.int .i64 0,.int .i64 0,.string m,.string p.1] 29)
  rw [show(w1.alloc (.cells #[.int .i64 6,.int .i64 t,.int .i64 0,.int .i64 0,.string m,.string tn] 29)).heap.size=w1.heap.size+1 by simp] at h9
  exact h9
 have HB2:Hid (Below w.heap.size w ((w1.alloc (.cells #[.int .i64 6,.int .i64 t,.int .i64 0,.int .i64 0,.string m,.string tn] 29)).alloc (.cells #[.int .i64 5,.int .i64 t,.int .i64 0,.int .i64 0,.string m,.string p.1] 29))):=ai HB.out (aK bU _)
 have HTL:=aa HB.out.size
 generalize(w1.alloc (.cells #[.int .i64 6,.int .i64 t,.int .i64 0,.int .i64 0,.string m,.string tn] 29)).alloc (.cells #[.int .i64 5,.int .i64 t,.int .i64 0,.int .i64 0,.string m,.string p.1] 29)=W2 at*
 generalize w1.heap.size=T1 at*
 clear c1 c10 cQ
 clear y1 y2 y3 y4 yb
 clear HB
 have HB:=HB2
 clear HB2
 replace CE1:=aa (fun W=> CE1.out W2 W HB.out)
 replace CE2:=aa (fun W=> CE2.out W2 W HB.out)
 refine iY 40 45 148 [(20,92),(22,94)] [(none,[]),(none,[]),(none,[]),(none,[]),(none,[]),(none,[]),(none,[]),(none,[]),(none,[]),(none,[]),(none,[]),(none,[]),(none,[]),(none,[]),(none,[]),(none,[]),(none,[]),(none,[]),(none,[]),(none,[]),(some 0,[]),(none,[]),(some 1,[0]),(none,[1]),(none,[]),(none,[]),(none,[]),(none,[]),(none,[]),(none,[]),(none,[]),(none,[]),(none,[]),(none,[]),(none,[]),(none,[]),(none,[]),(none,[]),(none,[]),(none,[])] [(72,(.int .i64 (i:Int))),(73,(.int .i64 (k:Int))),(74,(.bool false)),(75,(.bool false)),(76,(.pointer (some ⟨Q,0,none⟩))),(77,(.pointer (some ⟨Q,0,none⟩))),(78,(.pointer (some ⟨Q,10,none⟩))),(79,(.slice (some ⟨b9,0,none⟩) a.ps.length pc)),(80,(.int .i64 (i:Int))),(81,(.pointer (some ⟨b9,i*2,none⟩))),(82,(.pointer (some ⟨b9,i*2,none⟩))),(83,(.string p.1)),(84,(.pointer (some ⟨Q,0,none⟩))),(85,(.pointer (some ⟨Q,0,none⟩))),(86,(.pointer (some ⟨Q,10,none⟩))),(87,(.slice (some ⟨b9,0,none⟩) a.ps.length pc)),(88,(.int .i64 (i:Int))),(89,(.pointer (some ⟨b9,i*2,none⟩))),(90,(.pointer (some ⟨b9,i*2+1,none⟩))),(91,(.slice ae p.2.length ce)),(93,(.agg #[.int .i64 6,.int .i64 t,.int .i64 0,.int .i64 0,.string m,.string tn])),(95,(.bool true)),(96,(.bool true)),(97,(.bool true)),(98,undef),(99,undef),(100,undef),(101,undef),(102,undef),(103,undef),(104,undef),(105,undef),(106,undef),(107,undef),(108,undef),(109,undef),(110,undef),(111,(.bool true))] (fun bsE vsE W=> mx W2 p.2 false (bsE.getD 0 false) (bsE.getD 1 false) ((vsE.getD 0 undef)) ((vsE.getD 1 undef)) W) (by kernel_rfl) (by kernel_rfl) rfl rfl (by kernel_rfl) (by rfl) ?h0 ?each ?done
 case h0=>
  intro vsE hlv
  obtain⟨v0,v1,rfl⟩:=cd hlv
  exact⟨(Below.refl _ _).drew,(fun e=> by cases e),(fun e=> by cases e)⟩
 case each=>
  simp only [dp]
  refine⟨ay ⟨ax rfl,72,(.int .i64 (i:Int)),rfl,by kernel_rfl,?_⟩,ay ⟨ax rfl,73,(.int .i64 (k:Int)),rfl,by kernel_rfl,?_⟩,ay ⟨ax rfl,74,(.bool false),rfl,by kernel_rfl,?_⟩,ay ⟨ax rfl,75,(.bool false),rfl,by kernel_rfl,?_⟩,ay ⟨ay ⟨_,_,_,rfl,rfl,by kernel_rfl⟩,76,(.pointer (some ⟨Q,0,none⟩)),rfl,by kernel_rfl,?_⟩,ay ⟨ay ⟨_,_,_,rfl,rfl,by kernel_rfl⟩,77,(.pointer (some ⟨Q,0,none⟩)),rfl,by kernel_rfl,?_⟩,ay ⟨ay ⟨_,_,_,rfl,rfl,by kernel_rfl⟩,78,(.pointer (some ⟨Q,10,none⟩)),rfl,by kernel_rfl,?_⟩,ay ⟨ay ⟨_,_,_,rfl,rfl,by kernel_rfl⟩,79,(.slice (some ⟨b9,0,none⟩) a.ps.length pc),rfl,by kernel_rfl,?_⟩,ay ⟨ay ⟨_,_,_,rfl,rfl,by kernel_rfl⟩,80,(.int .i64 (i:Int)),rfl,by kernel_rfl,?_⟩,ay ⟨ay ⟨_,_,_,rfl,rfl,by kernel_rfl⟩,81,(.pointer (some ⟨b9,i*2,none⟩)),rfl,by kernel_rfl,?_⟩,ay ⟨ay ⟨_,_,_,rfl,rfl,by kernel_rfl⟩,82,(.pointer (some ⟨b9,i*2,none⟩)),rfl,by kernel_rfl,?_⟩,ay ⟨ay ⟨_,_,_,rfl,rfl,by kernel_rfl⟩,83,(.string p.1),rfl,by kernel_rfl,?_⟩,ay ⟨ay ⟨_,_,_,rfl,rfl,by kernel_rfl⟩,84,(.pointer (some ⟨Q,0,none⟩)),rfl,by kernel_rfl,?_⟩,ay ⟨ay ⟨_,_,_,rfl,rfl,by kernel_rfl⟩,85,(.pointer (some ⟨Q,0,none⟩)),rfl,by kernel_rfl,?_⟩,ay ⟨ay ⟨_,_,_,rfl,rfl,by kernel_rfl⟩,86,(.pointer (some ⟨Q,10,none⟩)),rfl,by kernel_rfl,?_⟩,ay ⟨ay ⟨_,_,_,rfl,rfl,by kernel_rfl⟩,87,(.slice (some ⟨b9,0,none⟩) a.ps.length pc),rfl,by kernel_rfl,?_⟩,ay ⟨ay ⟨_,_,_,rfl,rfl,by kernel_rfl⟩,88,(.int .i64 (i:Int)),rfl,by kernel_rfl,?_⟩,ay ⟨ay ⟨_,_,_,rfl,rfl,by kernel_rfl⟩,89,(.pointer (some ⟨b9,i*2,none⟩)),rfl,by kernel_rfl,?_⟩,ay ⟨ay ⟨_,_,_,rfl,rfl,by kernel_rfl⟩,90,(.pointer (some ⟨b9,i*2+1,none⟩)),rfl,by kernel_rfl,?_⟩,ay ⟨ay ⟨_,_,_,rfl,rfl,by kernel_rfl⟩,91,(.slice ae p.2.length ce),rfl,by kernel_rfl,?_⟩,⟨ay ⟨_,_,_,rfl,rfl,by kernel_rfl⟩,ax ⟨92,rfl,?q1_20⟩⟩,ay ⟨ay ⟨_,_,_,rfl,rfl,by kernel_rfl⟩,93,(.agg #[.int .i64 6,.int .i64 t,.int .i64 0,.int .i64 0,.string m,.string tn]),rfl,by kernel_rfl,?_⟩,⟨ay ⟨_,_,_,rfl,rfl,by kernel_rfl⟩,ax ⟨94,rfl,?q1_22⟩⟩,ay ⟨ay ⟨_,_,_,rfl,rfl,by kernel_rfl⟩,95,(.bool true),rfl,by kernel_rfl,?q1_23⟩,ay ⟨ax rfl,96,(.bool true),rfl,by kernel_rfl,?_⟩,ay ⟨ax rfl,97,(.bool true),rfl,by kernel_rfl,?_⟩,ax ⟨⟨_,_,_,true,rfl,rfl,by kernel_rfl,rfl⟩,98,rfl,by kernel_rfl⟩,ax ⟨⟨_,_,_,true,rfl,rfl,by kernel_rfl,rfl⟩,99,rfl,by kernel_rfl⟩,ax ⟨⟨_,_,_,true,rfl,rfl,by kernel_rfl,rfl⟩,100,rfl,by kernel_rfl⟩,ax ⟨⟨_,_,_,true,rfl,rfl,by kernel_rfl,rfl⟩,101,rfl,by kernel_rfl⟩,ax ⟨⟨_,_,_,true,rfl,rfl,by kernel_rfl,rfl⟩,102,rfl,by kernel_rfl⟩,ax ⟨⟨_,_,_,true,rfl,rfl,by kernel_rfl,rfl⟩,103,rfl,by kernel_rfl⟩,ax ⟨⟨_,_,_,true,rfl,rfl,by kernel_rfl,rfl⟩,104,rfl,by kernel_rfl⟩,ax ⟨⟨_,_,_,true,rfl,rfl,by kernel_rfl,rfl⟩,105,rfl,by kernel_rfl⟩,ax ⟨⟨_,_,_,true,rfl,rfl,by kernel_rfl,rfl⟩,106,rfl,by kernel_rfl⟩,ax ⟨⟨_,_,_,true,rfl,rfl,by kernel_rfl,rfl⟩,107,rfl,by kernel_rfl⟩,ax ⟨⟨_,_,_,true,rfl,rfl,by kernel_rfl,rfl⟩,108,rfl,by kernel_rfl⟩,ax ⟨⟨_,_,_,true,rfl,rfl,by kernel_rfl,rfl⟩,109,rfl,by kernel_rfl⟩,ax ⟨⟨_,_,_,true,rfl,rfl,by kernel_rfl,rfl⟩,110,rfl,by kernel_rfl⟩,ay ⟨ax rfl,111,(.bool true),rfl,by kernel_rfl,?_⟩,trivial⟩
  case q1_20=>
   intro bsE vsE W hlb hlv hnd hbk h
   obtain⟨b0,b1,rfl⟩:=cd hlb
   obtain⟨v0,v1,rfl⟩:=cd hlv
   obtain rfl:b0=false:=hbk
   replace h:mx W2 p.2 false false b1 (v0) (v1) W:=h
   clear hnd
   have HST:=aa h
   skip
   intro K Q hK
   simp only [az,updAll,Act.put,aU,aV,aW,aX] at hK ⊢
   go_wp2_with (go_at_call 51;refine(CE1.out _ h.bel).mono ?_;rintro en w9 ⟨v',rfl,ho9,hb9⟩)
   all_goals(have hm:=h.mk0 hb9 (fz ho9))
   all_goals(first | exact hK _ _ hm | exact hm)
  case q1_22=>
   intro bsE vsE W hlb hlv hnd hbk h
   obtain⟨b0,b1,rfl⟩:=cd hlb
   obtain⟨v0,v1,rfl⟩:=cd hlv
   obtain rfl:b0=true:=hnd 0 (by simp)
   obtain rfl:b1=false:=hbk
   replace h:mx W2 p.2 false true false (v0) (v1) W:=h
   clear hnd
   have HST:=aa h
   obtain⟨a9,c9,rfl,hev⟩:=h.o0 rfl
   intro K Q hK
   simp only [az,updAll,Act.put,aU,aV,aW,aX] at hK ⊢
   go_wp2_with (go_at_call 50;refine(CC1.out _ a9 c9 hev).mono ?_;rintro en w9 ⟨rfl,hb9⟩)
   all_goals(have hm:=h.mk1 hb9)
   all_goals(first | exact hK _ _ hm | exact hm)
  case q1_23=>
   intro bsE vsE W hlb hlv hnd h
   obtain⟨b0,b1,rfl⟩:=cd hlb
   obtain⟨v0,v1,rfl⟩:=cd hlv
   obtain rfl:b1=true:=hnd 1 (by simp)
   replace h:mx W2 p.2 false b0 true (v0) (v1) W:=h
   clear hnd
   have HST:=aa h
   obtain rfl:=h.e1 rfl
   intro K Q hK
   simp only [az,updAll,Act.put,aU,aV,aW,aX] at hK ⊢
   go_wp2_with (fail)
   all_goals(first | exact hK _ h | exact h)
  all_goals
   intro bsE vsE W hlb hlv hnd h
   obtain⟨b0,b1,rfl⟩:=cd hlb
   obtain⟨v0,v1,rfl⟩:=cd hlv
   replace h:mx W2 p.2 false b0 b1 (v0) (v1) W:=h
   clear hnd
   have HST:=aa h
   have hbw:=ai HB.out h.bel;have d10:=ag HC.out.2.1 hbw;have dQ:=ar HC.out.2.2 hbw.size;have d1:=ag HQ.out.1 hbw;have d2:=ag HQ.out.2.1 hbw;have d3:=ag HQ.out.2.2.1 hbw;have d4:=ag HQ.out.2.2.2.1 hbw;have db:=ar HQ.out.2.2.2.2 hbw.size;have ht1:=an HT1.out h.bel;have ht2:=an HT2.out h.bel;have x0:=ah (o:=0) ht1 rfl;have z0:=ah (o:=0) ht2 rfl;have x1:=ah (o:=1) ht1 rfl;have z1:=ah (o:=1) ht2 rfl;have x2:=ah (o:=2) ht1 rfl;have z2:=ah (o:=2) ht2 rfl;have x3:=ah (o:=3) ht1 rfl;have z3:=ah (o:=3) ht2 rfl;have x4:=ah (o:=4) ht1 rfl;have z4:=ah (o:=4) ht2 rfl;have x5:=ah (o:=5) ht1 rfl;have z5:=ah (o:=5) ht2 rfl;have xl:=ak ht1;have zl:=ak ht2;clear ht1 ht2 hbw
   intro K Q hK
   simp only [az,updAll,Act.put,aU,aV,aW,aX] at hK ⊢
   go_wp2_with (fail)
   all_goals(first | exact hK _ h | exact h)
 case done=>
  intro vsE W hlv h
  obtain⟨v0,v1,rfl⟩:=cd hlv
  replace h:mx W2 p.2 false true true (v0) (v1) W:=h
  have HST:=aa h
  have HB2:=aa (ai HB.out h.bel)
  have HT3:=aa (an HT1.out h.bel)
  have HT4:=aa (an HT2.out h.bel)
  obtain rfl:=h.e1 rfl
  clear h HST HB CE1 CE2 CC1 CC2 HT1 HT2
  have HB:=HB2
  have HT1:=HT3
  have HT2:=HT4
  clear HB2 HT3 HT4
  simp only [az,updAll,Act.put,aU,aV,aW,aX]
  go_wp2_with fail
  exact aH (v:=.int .i64 10) rfl rfl rfl ⟨rfl,H.out.stay HB.out⟩
theorem xP {w0 w:World} {X:Nat→Prop} {Q:Nat} {vb vP:Value} {a:RegA} (h:bC w0 X Q vb a vP w)(ho:dc a)(hd:HdI a)(n:Nat)(t:Int)(m tn:ByteArray)(hs:m.size≤100)(hb:0≤(n:Int)∧(n:Int) < a.bks.length)(hv:modB m=true∧nameB tn=true∧bJ t=true)(p q:ByteArray×List bR)(hp:a.ps[whereA m a]? =some p)(hq:a.ps[findA tn a]? =some q)(h6:whereA m a≠findA tn a)(h7:cg p.1 (lf p) (bE t m tn)=true):
  Calls Tryz.prog 74 #[.pointer (some ⟨Q,0,none⟩),.int .i64 (n:Int),.int .i64 t,.string m,.string tn] w fun en w'=> en=.returned (.int .i64 (moveA a (n:Int) t m tn).1)∧eZ w0 X Q vb (moveA a (n:Int) t m tn).2 w w':=by
 have hnp:=ho.np
 have H:=aa h
 have HO:=aa ho
 have HD:=aa hd
 have HS:=aa hs
 obtain⟨pa,pc,rfl⟩:=h.pslice
 obtain⟨ab,cb,rfl,-⟩:=h.bk
 have CM:=aa (fun W=> bS m W (by omega))
 have CN:=aa (fun W=> bu tn W)
 have CI:=aa (fun W=> aY t 0 1099511627776 W)
 rw [dh] at CI
 have CW:=aa (fun W (hW:Below w.heap.size w W)=> dt (h.step hW) ho.toji m)
 have CF:=aa (fun W (hW:Below w.heap.size w W)=> cH (h.step hW) tn (by omega))
 have CL:=aa (fun W (hW:Below w.heap.size w W)=> dC (h.step hW) ho.toji (n:Int))
 generalize rmO m=o9 at*
 have HC:=aa (ba (ah (o:=1) (v:=.slice ab a.bks.length cb) h.blk rfl) (ba h.cell10 (ak h.blk)))
 have HB:=aa (Below.refl w.heap.size w)
 have hb0:¬ (n:Int) < 0:=by omega
 have hb1:¬ (n:Int)≥(a.bks.length:Int):=by omega
 rw [hv.1] at CM
 rw [hv.2.1] at CN
 rw [hv.2.2] at CI
 have hi:=(aB hp).1
 have hk:=(aB hq).1
 rw [dM hi] at CW
 have i0:¬ ((whereA m a:Nat):Int) < 0:=by omega
 rw [dM hk] at CF
 have k0:¬ ((findA tn a:Nat):Int) < 0:=by omega
 have i1:((whereA m a:Nat):Int) < a.ps.length:=by omega
 have k1:((findA tn a:Nat):Int) < a.ps.length:=by omega
 have i2:(0:Int)≤((whereA m a:Nat):Int):=by omega
 have k2:(0:Int)≤((findA tn a:Nat):Int):=by omega
 have hqn:=kj hq
 obtain⟨b9,e9,lb9,q1,ae,ce,q2,q3⟩:=h.pack hp
 subst e9
 obtain⟨b8,e8,lb8,r1,ae2,ce2,r2,r3⟩:=h.pack hq
 cases e8
 clear lb8
 obtain⟨p1,p2,p3,p4⟩:=ho.p p (aJ hp)
 obtain⟨s1,s2,s3,s4⟩:=ho.p q (aJ hq)
 have HQ:=aa (ba q1 (ba q2 (ba r1 (ba r2 lb9))))
 have CE1:Hid (∀ W0 W:World,Below w.heap.size w W0→Below W0.heap.size W0 W→Calls Tryz.prog 51 #[.slice ae p.2.length ce] W fun en w'=> ∃ v',en=.returned v'∧w'.ownsRow W.heap.size 29 6 v' p.2.length (eh (br p.2))∧Below W.heap.size W w'):=fun W0 W h0 hW=> dI ce (q3.keep (fun _ h=> h) (ai h0 hW).size (fun k _ hk=> (ai h0 hW).block k hk)).at_ (by omega)
 have CE2:Hid (∀ W0 W:World,Below w.heap.size w W0→Below W0.heap.size W0 W→Calls Tryz.prog 51 #[.slice ae2 q.2.length ce2] W fun en w'=> ∃ v',en=.returned v'∧w'.ownsRow W.heap.size 29 6 v' q.2.length (eh (br q.2))∧Below W.heap.size W w'):=fun W0 W h0 hW=> dI ce2 (r3.keep (fun _ h=> h) (ai h0 hW).size (fun k _ hk=> (ai h0 hW).block k hk)).at_ (by omega)
 obtain⟨ra,hra⟩:∃ r9,cg p.1 (lf p) (bE t m tn)=r9:=⟨_,rfl⟩
 have CC1:Hid (∀ (W:World) (a9:Option Addr) (c9:Nat),eK a9 (br p.2) W→Calls Tryz.prog 50 #[.string p.1,.slice a9 (br p.2).length c9,.agg #[.int .i64 6,.int .i64 t,.int .i64 0,.int .i64 0,.string m,.string tn]] W fun en w'=> en=.returned (.bool ra)∧Below W.heap.size W w'):=fun W a9 c9 hE=> by
  have h9:=gY (w:=W) c9 p.1 hE (by rw [dd];omega) (eU p3) (by have:=(bI p4).2;omega) (bE t m tn)
  rw [← fC p2,show cg p.1 (lifeOf p.1 (br p.2)) (bE t m tn)=ra from hra] at h9
  exact h9
 obtain⟨rb,hrb⟩:∃ r9,cg q.1 (lf q) (cf t m p.1)=r9:=⟨_,rfl⟩
 have CC2:Hid (∀ (W:World) (a9:Option Addr) (c9:Nat),eK a9 (br q.2) W→Calls Tryz.prog 50 #[.string tn,.slice a9 (br q.2).length c9,.agg #[.int .i64 5,.int .i64 t,.int .i64 0,.int .i64 0,.string m,.string p.1]] W fun en w'=> en=.returned (.bool rb)∧Below W.heap.size W w'):=fun W a9 c9 hE=> by
  have h9:=gY (w:=W) c9 q.1 hE (by rw [dd];omega) (eU s3) (by have:=(bI s4).2;omega) (cf t m p.1)
  rw [← fC s2,show cg q.1 (lifeOf q.1 (br q.2)) (cf t m p.1)=rb from hrb,hqn] at h9
  exact h9
 have hne:((whereA m a:Nat):Int)≠(findA tn a:Nat):=fun c=> h6 (by omega)
 have hnb:(((whereA m a:Nat):Int)==(findA tn a:Nat))=false:=by simpa using hne
 clear hne
 rw [show ra=true from by rw [← hra];exact h7] at CC1
 have hnb9:n < a.bks.length:=by omega
 have hok1:eC (bE t m tn)=true:=jd hv
 have hok2:eC (cf t m p.1)=true:=j7 hv.1 p4 hv.2.2
 have hz1:=(bI hv.2.1).2
 have hz2:=(bI p4).2
 have hM:moveA a (n:Int) t m tn=if rb=false then(10,a)else if 500≤p.2.length∨500≤q.2.length then(11,a)else if leftA a (n:Int) < 2 then(4,a)else(0,putA (putA a n (whereA m a) (bE t m tn)) n (findA tn a) (cf t m p.1)):=by
  rw [ik hb hv hp hq,Int.toNat_natCast]
  cases rb with
  | false=> rw [aG (ay (ay hrb)),aG rfl]
  | true=> rw [aA (by rw [h7,hrb];simp [h6]),aA (show ¬ (true=false)from by decide)]
 have CA:Hid (∀ W,Below w.heap.size w W→¬ 500≤p.2.length→¬ leftA a (n:Int) < 2→Calls Tryz.prog 121 #[.pointer (some ⟨Q,0,none⟩),.int .i64 (n:Int),.int .i64 ((whereA m a:Nat):Int),.agg #[.int .i64 6,.int .i64 t,.int .i64 0,.int .i64 0,.string m,.string tn]] W fun en w'=> en=.returned (.tuple #[])∧eZ w0 X Q (.slice ab a.bks.length cb) (putA a n (whereA m a) (bE t m tn)) W w'):=fun W hW h9 h11=> by
  have hus:=dX hnb9
  exact iW (h.step hW) ho.toji hd hp hnb9 (by omega) (bE t m tn) hok1 ⟨by show m.size≤100;exact hs,by show tn.size≤100;omega⟩
 have CA2:Hid (¬ 500≤p.2.length→¬ leftA a (n:Int) < 2→∀ (X9:Nat→Prop) (vP9:Value) (W:World),bC w0 X9 Q (.slice ab a.bks.length cb) (putA a n (whereA m a) (bE t m tn)) vP9 W→Calls Tryz.prog 121 #[.pointer (some ⟨Q,0,none⟩),.int .i64 (n:Int),.int .i64 ((findA tn a:Nat):Int),.agg #[.int .i64 5,.int .i64 t,.int .i64 0,.int .i64 0,.string m,.string p.1]] W fun en w'=> en=.returned (.tuple #[])∧eZ w0 X9 Q (.slice ab a.bks.length cb) (putA (putA a n (whereA m a) (bE t m tn)) n (findA tn a) (cf t m p.1)) W w'):=fun h9 h11 X9 vP9 W hW=> by
  have hus:=dX hnb9
  have hq1:(putA a n (whereA m a) (bE t m tn)).ps[findA tn a]? =some q:=by rw [fq (fun c=> h6 c.symm)];exact hq
  have hu2:(putA a n (whereA m a) (bE t m tn)).used.getD n 0 < ((putA a n (whereA m a) (bE t m tn)).bks.getD n (0,[])).2.length:=by rw [eY.1,gR hp,gU];split <;> omega
  exact iW hW (ho.toji.put hp hok1 h7 (by omega) (by omega)) (hd.put' n _ _) hq1 (by rw [eY.1];exact hnb9) hu2 (cf t m p.1) hok2 ⟨by show m.size≤100;exact hs,by show p.1.size≤100;omega⟩
 have HM:=aa hM
 generalize putA (putA a n (whereA m a) (bE t m tn)) n (findA tn a) (cf t m p.1)=a2 at*
 generalize putA a n (whereA m a) (bE t m tn)=a1 at*
 generalize hLL:leftA a (n:Int)=L at*
 clear h6 h7 hra hrb hnb9 hok1 hok2 hz1 hz2 hM hLL
 clear hb hv hp hq hi hk q1 q2 q3 r1 r2 r3 lb9 p1 p2 p3 p4 s1 s2 s3 s4 hqn
 generalize whereA m a=i at*
 generalize findA tn a=k at*
 clear h ho hd hs hnp
 go_enter Tryz.func74,Tryz.ntmps74
 have c1:=ag HC.out.1 HB.out;have c10:=ag HC.out.2.1 HB.out;have cQ:=ar HC.out.2.2 HB.out.size
 go_upto_region 10 with(first | ((first | (go_at_call 81;refine(CM.out _).mono ?_) | (go_at_call 48;refine(CN.out _).mono ?_) | (go_at_call 82;refine(CW.out _ HB.out).mono ?_) | (go_at_call 83;refine(CF.out _ HB.out).mono ?_));rintro e w1 ⟨rfl,hbn⟩;have HB9:=aa (ai HB.out hbn);clear HB hbn;clear c1 c10 cQ;have HB:=HB9;clear HB9;have c1:=ag HC.out.1 HB.out;have c10:=ag HC.out.2.1 HB.out;have cQ:=ar HC.out.2.2 HB.out.size) | (go_at_call 109;refine(CI.out _).mono ?_;rintro e w1 ⟨rfl,rfl⟩))
 have y1:=ag HQ.out.1 HB.out;have y2:=ag HQ.out.2.1 HB.out;have y3:=ag HQ.out.2.2.1 HB.out;have y4:=ag HQ.out.2.2.2.1 HB.out;have yb:=ar HQ.out.2.2.2.2 HB.out.size
 go_upto_region 12 with fail
 have HT1:=aa (an (au w1 (.cells #[.int .i64 6,.int .i64 t,.int .i64 0,.int .i64 0,.string m,.string tn] 29)) (bU (o:=(.cells #[.int .i64 5,.int .i64 t,.int .i64 0,.int .i64 0,.string m,.string p.1] 29))))
 have HT2:Hid (((w1.alloc (.cells #[.int .i64 6,.int .i64 t,.int .i64 0,.int .i64 0,.string m,.string tn] 29)).alloc (.cells #[.int .i64 5,.int .i64 t,.int .i64 0,.int .i64 0,.string m,.string p.1] 29)).heap[w1.heap.size+1]? =some (.cells #[.int .i64 5,.int .i64 t,.int .i64 0,.int .i64 0,.string m,.string p.1] 29 (0,0))):=by
  have h9:=au (w1.alloc (.cells #[.int .i64 6,.int .i64 t,.int .i64 0,.int .i64 0,.string m,.string tn] 29)) (.cells #[.int .i64 5,.int .i64 t,.int .i64 0,.int .i64 0,.string m,.string p.1] 29)
  rw [show(w1.alloc (.cells #[.int .i64 6,.int .i64 t,.int .i64 0,.int .i64 0,.string m,.string tn] 29)).heap.size=w1.heap.size+1 by simp] at h9
  exact h9
 have HB2:Hid (Below w.heap.size w ((w1.alloc (.cells #[.int .i64 6,.int .i64 t,.int .i64 0,.int .i64 0,.string m,.string tn] 29)).alloc (.cells #[.int .i64 5,.int .i64 t,.int .i64 0,.int .i64 0,.string m,.string p.1] 29))):=ai HB.out (aK bU _)
 have HTL:=aa HB.out.size
 generalize(w1.alloc (.cells #[.int .i64 6,.int .i64 t,.int .i64 0,.int .i64 0,.string m,.string tn] 29)).alloc (.cells #[.int .i64 5,.int .i64 t,.int .i64 0,.int .i64 0,.string m,.string p.1] 29)=W2 at*
 generalize w1.heap.size=T1 at*
 clear c1 c10 cQ
 clear y1 y2 y3 y4 yb
 clear HB
 have HB:=HB2
 clear HB2
 replace CE1:=aa (fun W=> CE1.out W2 W HB.out)
 replace CE2:=aa (fun W=> CE2.out W2 W HB.out)
 refine iY 40 45 148 [(20,92),(22,94),(35,107),(37,109)] [(none,[]),(none,[]),(none,[]),(none,[]),(none,[]),(none,[]),(none,[]),(none,[]),(none,[]),(none,[]),(none,[]),(none,[]),(none,[]),(none,[]),(none,[]),(none,[]),(none,[]),(none,[]),(none,[]),(none,[]),(some 0,[]),(none,[]),(some 1,[0]),(none,[1]),(none,[]),(none,[]),(none,[]),(none,[]),(none,[]),(none,[]),(none,[]),(none,[]),(none,[]),(none,[]),(none,[]),(some 2,[]),(none,[]),(some 3,[2]),(none,[3]),(none,[])] [(72,(.int .i64 (i:Int))),(73,(.int .i64 (k:Int))),(74,(.bool false)),(75,(.bool false)),(76,(.pointer (some ⟨Q,0,none⟩))),(77,(.pointer (some ⟨Q,0,none⟩))),(78,(.pointer (some ⟨Q,10,none⟩))),(79,(.slice (some ⟨b9,0,none⟩) a.ps.length pc)),(80,(.int .i64 (i:Int))),(81,(.pointer (some ⟨b9,i*2,none⟩))),(82,(.pointer (some ⟨b9,i*2,none⟩))),(83,(.string p.1)),(84,(.pointer (some ⟨Q,0,none⟩))),(85,(.pointer (some ⟨Q,0,none⟩))),(86,(.pointer (some ⟨Q,10,none⟩))),(87,(.slice (some ⟨b9,0,none⟩) a.ps.length pc)),(88,(.int .i64 (i:Int))),(89,(.pointer (some ⟨b9,i*2,none⟩))),(90,(.pointer (some ⟨b9,i*2+1,none⟩))),(91,(.slice ae p.2.length ce)),(93,(.agg #[.int .i64 6,.int .i64 t,.int .i64 0,.int .i64 0,.string m,.string tn])),(95,(.bool false)),(96,(.bool false)),(97,(.bool false)),(98,(.string tn)),(99,(.pointer (some ⟨Q,0,none⟩))),(100,(.pointer (some ⟨Q,0,none⟩))),(101,(.pointer (some ⟨Q,10,none⟩))),(102,(.slice (some ⟨b9,0,none⟩) a.ps.length pc)),(103,(.int .i64 (k:Int))),(104,(.pointer (some ⟨b9,k*2,none⟩))),(105,(.pointer (some ⟨b9,k*2+1,none⟩))),(106,(.slice ae2 q.2.length ce2)),(108,(.agg #[.int .i64 5,.int .i64 t,.int .i64 0,.int .i64 0,.string m,.string p.1])),(110,(.bool (!rb))),(111,(.bool (!rb)))] (fun bsE vsE W=> mO W2 p.2 q.2 true rb (bsE.getD 0 false) (bsE.getD 1 false) (bsE.getD 2 false) (bsE.getD 3 false) ((vsE.getD 0 undef)) ((vsE.getD 1 undef)) ((vsE.getD 2 undef)) ((vsE.getD 3 undef)) W) (by kernel_rfl) (by kernel_rfl) rfl rfl (by kernel_rfl) (by rfl) ?h0 ?each ?done
 case h0=>
  intro vsE hlv
  obtain⟨v0,v1,v2,v3,rfl⟩:=cK hlv
  exact⟨(Below.refl _ _).drew,(fun e=> by cases e),(fun e=> by cases e),(fun e=> by cases e),(fun e=> by cases e)⟩
 case each=>
  simp only [dp]
  refine⟨ay ⟨ax rfl,72,(.int .i64 (i:Int)),rfl,by kernel_rfl,?_⟩,ay ⟨ax rfl,73,(.int .i64 (k:Int)),rfl,by kernel_rfl,?_⟩,ay ⟨ax rfl,74,(.bool false),rfl,by kernel_rfl,?_⟩,ay ⟨ax rfl,75,(.bool false),rfl,by kernel_rfl,?_⟩,ay ⟨ay ⟨_,_,_,rfl,rfl,by kernel_rfl⟩,76,(.pointer (some ⟨Q,0,none⟩)),rfl,by kernel_rfl,?_⟩,ay ⟨ay ⟨_,_,_,rfl,rfl,by kernel_rfl⟩,77,(.pointer (some ⟨Q,0,none⟩)),rfl,by kernel_rfl,?_⟩,ay ⟨ay ⟨_,_,_,rfl,rfl,by kernel_rfl⟩,78,(.pointer (some ⟨Q,10,none⟩)),rfl,by kernel_rfl,?_⟩,ay ⟨ay ⟨_,_,_,rfl,rfl,by kernel_rfl⟩,79,(.slice (some ⟨b9,0,none⟩) a.ps.length pc),rfl,by kernel_rfl,?_⟩,ay ⟨ay ⟨_,_,_,rfl,rfl,by kernel_rfl⟩,80,(.int .i64 (i:Int)),rfl,by kernel_rfl,?_⟩,ay ⟨ay ⟨_,_,_,rfl,rfl,by kernel_rfl⟩,81,(.pointer (some ⟨b9,i*2,none⟩)),rfl,by kernel_rfl,?_⟩,ay ⟨ay ⟨_,_,_,rfl,rfl,by kernel_rfl⟩,82,(.pointer (some ⟨b9,i*2,none⟩)),rfl,by kernel_rfl,?_⟩,ay ⟨ay ⟨_,_,_,rfl,rfl,by kernel_rfl⟩,83,(.string p.1),rfl,by kernel_rfl,?_⟩,ay ⟨ay ⟨_,_,_,rfl,rfl,by kernel_rfl⟩,84,(.pointer (some ⟨Q,0,none⟩)),rfl,by kernel_rfl,?_⟩,ay ⟨ay ⟨_,_,_,rfl,rfl,by kernel_rfl⟩,85,(.pointer (some ⟨Q,0,none⟩)),rfl,by kernel_rfl,?_⟩,ay ⟨ay ⟨_,_,_,rfl,rfl,by kernel_rfl⟩,86,(.pointer (some ⟨Q,10,none⟩)),rfl,by kernel_rfl,?_⟩,ay ⟨ay ⟨_,_,_,rfl,rfl,by kernel_rfl⟩,87,(.slice (some ⟨b9,0,none⟩) a.ps.length pc),rfl,by kernel_rfl,?_⟩,ay ⟨ay ⟨_,_,_,rfl,rfl,by kernel_rfl⟩,88,(.int .i64 (i:Int)),rfl,by kernel_rfl,?_⟩,ay ⟨ay ⟨_,_,_,rfl,rfl,by kernel_rfl⟩,89,(.pointer (some ⟨b9,i*2,none⟩)),rfl,by kernel_rfl,?_⟩,ay ⟨ay ⟨_,_,_,rfl,rfl,by kernel_rfl⟩,90,(.pointer (some ⟨b9,i*2+1,none⟩)),rfl,by kernel_rfl,?_⟩,ay ⟨ay ⟨_,_,_,rfl,rfl,by kernel_rfl⟩,91,(.slice ae p.2.length ce),rfl,by kernel_rfl,?_⟩,⟨ay ⟨_,_,_,rfl,rfl,by kernel_rfl⟩,ax ⟨92,rfl,?q2_20⟩⟩,ay ⟨ay ⟨_,_,_,rfl,rfl,by kernel_rfl⟩,93,(.agg #[.int .i64 6,.int .i64 t,.int .i64 0,.int .i64 0,.string m,.string tn]),rfl,by kernel_rfl,?_⟩,⟨ay ⟨_,_,_,rfl,rfl,by kernel_rfl⟩,ax ⟨94,rfl,?q2_22⟩⟩,ay ⟨ay ⟨_,_,_,rfl,rfl,by kernel_rfl⟩,95,(.bool false),rfl,by kernel_rfl,?q2_23⟩,ay ⟨ax rfl,96,(.bool false),rfl,by kernel_rfl,?_⟩,ay ⟨ax rfl,97,(.bool false),rfl,by kernel_rfl,?_⟩,ay ⟨ay ⟨_,_,_,rfl,rfl,by kernel_rfl⟩,98,(.string tn),rfl,by kernel_rfl,?_⟩,ay ⟨ay ⟨_,_,_,rfl,rfl,by kernel_rfl⟩,99,(.pointer (some ⟨Q,0,none⟩)),rfl,by kernel_rfl,?_⟩,ay ⟨ay ⟨_,_,_,rfl,rfl,by kernel_rfl⟩,100,(.pointer (some ⟨Q,0,none⟩)),rfl,by kernel_rfl,?_⟩,ay ⟨ay ⟨_,_,_,rfl,rfl,by kernel_rfl⟩,101,(.pointer (some ⟨Q,10,none⟩)),rfl,by kernel_rfl,?_⟩,ay ⟨ay ⟨_,_,_,rfl,rfl,by kernel_rfl⟩,102,(.slice (some ⟨b9,0,none⟩) a.ps.length pc),rfl,by kernel_rfl,?_⟩,ay ⟨ay ⟨_,_,_,rfl,rfl,by kernel_rfl⟩,103,(.int .i64 (k:Int)),rfl,by kernel_rfl,?_⟩,ay ⟨ay ⟨_,_,_,rfl,rfl,by kernel_rfl⟩,104,(.pointer (some ⟨b9,k*2,none⟩)),rfl,by kernel_rfl,?_⟩,ay ⟨ay ⟨_,_,_,rfl,rfl,by kernel_rfl⟩,105,(.pointer (some ⟨b9,k*2+1,none⟩)),rfl,by kernel_rfl,?_⟩,ay ⟨ay ⟨_,_,_,rfl,rfl,by kernel_rfl⟩,106,(.slice ae2 q.2.length ce2),rfl,by kernel_rfl,?_⟩,⟨ay ⟨_,_,_,rfl,rfl,by kernel_rfl⟩,ax ⟨107,rfl,?q2_35⟩⟩,ay ⟨ay ⟨_,_,_,rfl,rfl,by kernel_rfl⟩,108,(.agg #[.int .i64 5,.int .i64 t,.int .i64 0,.int .i64 0,.string m,.string p.1]),rfl,by kernel_rfl,?_⟩,⟨ay ⟨_,_,_,rfl,rfl,by kernel_rfl⟩,ax ⟨109,rfl,?q2_37⟩⟩,ay ⟨ay ⟨_,_,_,rfl,rfl,by kernel_rfl⟩,110,(.bool (!rb)),rfl,by kernel_rfl,?q2_38⟩,ay ⟨ax rfl,111,(.bool (!rb)),rfl,by kernel_rfl,?_⟩,trivial⟩
  case q2_20=>
   intro bsE vsE W hlb hlv hnd hbk h
   obtain⟨b0,b1,b2,b3,rfl⟩:=cK hlb
   obtain⟨v0,v1,v2,v3,rfl⟩:=cK hlv
   obtain rfl:b0=false:=hbk
   replace h:mO W2 p.2 q.2 true rb false b1 b2 b3 (v0) (v1) (v2) (v3) W:=h
   clear hnd
   have HST:=aa h
   skip
   intro K Q hK
   simp only [az,updAll,Act.put,aU,aV,aW,aX] at hK ⊢
   go_wp2_with (go_at_call 51;refine(CE1.out _ h.bel).mono ?_;rintro en w9 ⟨v',rfl,ho9,hb9⟩)
   all_goals(have hm:=h.mk0 hb9 (fz ho9))
   all_goals(first | exact hK _ _ hm | exact hm)
  case q2_22=>
   intro bsE vsE W hlb hlv hnd hbk h
   obtain⟨b0,b1,b2,b3,rfl⟩:=cK hlb
   obtain⟨v0,v1,v2,v3,rfl⟩:=cK hlv
   obtain rfl:b0=true:=hnd 0 (by simp)
   obtain rfl:b1=false:=hbk
   replace h:mO W2 p.2 q.2 true rb true false b2 b3 (v0) (v1) (v2) (v3) W:=h
   clear hnd
   have HST:=aa h
   obtain⟨a9,c9,rfl,hev⟩:=h.o0 rfl
   intro K Q hK
   simp only [az,updAll,Act.put,aU,aV,aW,aX] at hK ⊢
   go_wp2_with (go_at_call 50;refine(CC1.out _ a9 c9 hev).mono ?_;rintro en w9 ⟨rfl,hb9⟩)
   all_goals(have hm:=h.mk1 hb9)
   all_goals(first | exact hK _ _ hm | exact hm)
  case q2_23=>
   intro bsE vsE W hlb hlv hnd h
   obtain⟨b0,b1,b2,b3,rfl⟩:=cK hlb
   obtain⟨v0,v1,v2,v3,rfl⟩:=cK hlv
   obtain rfl:b1=true:=hnd 1 (by simp)
   replace h:mO W2 p.2 q.2 true rb b0 true b2 b3 (v0) (v1) (v2) (v3) W:=h
   clear hnd
   have HST:=aa h
   obtain rfl:=h.e1 rfl
   intro K Q hK
   simp only [az,updAll,Act.put,aU,aV,aW,aX] at hK ⊢
   go_wp2_with (fail)
   all_goals(first | exact hK _ h | exact h)
  case q2_35=>
   intro bsE vsE W hlb hlv hnd hbk h
   obtain⟨b0,b1,b2,b3,rfl⟩:=cK hlb
   obtain⟨v0,v1,v2,v3,rfl⟩:=cK hlv
   obtain rfl:b2=false:=hbk
   replace h:mO W2 p.2 q.2 true rb b0 b1 false b3 (v0) (v1) (v2) (v3) W:=h
   clear hnd
   have HST:=aa h
   skip
   intro K Q hK
   simp only [az,updAll,Act.put,aU,aV,aW,aX] at hK ⊢
   go_wp2_with (go_at_call 51;refine(CE2.out _ h.bel).mono ?_;rintro en w9 ⟨v',rfl,ho9,hb9⟩)
   all_goals(have hm:=h.mk2 hb9 (fz ho9))
   all_goals(first | exact hK _ _ hm | exact hm)
  case q2_37=>
   intro bsE vsE W hlb hlv hnd hbk h
   obtain⟨b0,b1,b2,b3,rfl⟩:=cK hlb
   obtain⟨v0,v1,v2,v3,rfl⟩:=cK hlv
   obtain rfl:b2=true:=hnd 2 (by simp)
   obtain rfl:b3=false:=hbk
   replace h:mO W2 p.2 q.2 true rb b0 b1 true false (v0) (v1) (v2) (v3) W:=h
   clear hnd
   have HST:=aa h
   obtain⟨a9,c9,rfl,hev⟩:=h.o2 rfl
   intro K Q hK
   simp only [az,updAll,Act.put,aU,aV,aW,aX] at hK ⊢
   go_wp2_with (go_at_call 50;refine(CC2.out _ a9 c9 hev).mono ?_;rintro en w9 ⟨rfl,hb9⟩)
   all_goals(have hm:=h.mk3 hb9)
   all_goals(first | exact hK _ _ hm | exact hm)
  case q2_38=>
   intro bsE vsE W hlb hlv hnd h
   obtain⟨b0,b1,b2,b3,rfl⟩:=cK hlb
   obtain⟨v0,v1,v2,v3,rfl⟩:=cK hlv
   obtain rfl:b3=true:=hnd 3 (by simp)
   replace h:mO W2 p.2 q.2 true rb b0 b1 b2 true (v0) (v1) (v2) (v3) W:=h
   clear hnd
   have HST:=aa h
   obtain rfl:=h.e3 rfl
   intro K Q hK
   simp only [az,updAll,Act.put,aU,aV,aW,aX] at hK ⊢
   go_wp2_with (fail)
   all_goals(first | exact hK _ h | exact h)
  all_goals
   intro bsE vsE W hlb hlv hnd h
   obtain⟨b0,b1,b2,b3,rfl⟩:=cK hlb
   obtain⟨v0,v1,v2,v3,rfl⟩:=cK hlv
   replace h:mO W2 p.2 q.2 true rb b0 b1 b2 b3 (v0) (v1) (v2) (v3) W:=h
   clear hnd
   have HST:=aa h
   have hbw:=ai HB.out h.bel;have d10:=ag HC.out.2.1 hbw;have dQ:=ar HC.out.2.2 hbw.size;have d1:=ag HQ.out.1 hbw;have d2:=ag HQ.out.2.1 hbw;have d3:=ag HQ.out.2.2.1 hbw;have d4:=ag HQ.out.2.2.2.1 hbw;have db:=ar HQ.out.2.2.2.2 hbw.size;have ht1:=an HT1.out h.bel;have ht2:=an HT2.out h.bel;have x0:=ah (o:=0) ht1 rfl;have z0:=ah (o:=0) ht2 rfl;have x1:=ah (o:=1) ht1 rfl;have z1:=ah (o:=1) ht2 rfl;have x2:=ah (o:=2) ht1 rfl;have z2:=ah (o:=2) ht2 rfl;have x3:=ah (o:=3) ht1 rfl;have z3:=ah (o:=3) ht2 rfl;have x4:=ah (o:=4) ht1 rfl;have z4:=ah (o:=4) ht2 rfl;have x5:=ah (o:=5) ht1 rfl;have z5:=ah (o:=5) ht2 rfl;have xl:=ak ht1;have zl:=ak ht2;clear ht1 ht2 hbw
   intro K Q hK
   simp only [az,updAll,Act.put,aU,aV,aW,aX] at hK ⊢
   go_wp2_with (fail)
   all_goals(first | exact hK _ h | exact h)
 case done=>
  intro vsE W hlv h
  obtain⟨v0,v1,v2,v3,rfl⟩:=cK hlv
  replace h:mO W2 p.2 q.2 true rb true true true true (v0) (v1) (v2) (v3) W:=h
  have HST:=aa h
  have HB2:=aa (ai HB.out h.bel)
  have HT3:=aa (an HT1.out h.bel)
  have HT4:=aa (an HT2.out h.bel)
  obtain rfl:=h.e1 rfl
  obtain rfl:=h.e3 rfl
  clear h HST HB CE1 CE2 CC1 CC2 HT1 HT2
  have HB:=HB2
  have HT1:=HT3
  have HT2:=HT4
  clear HB2 HT3 HT4
  simp only [az,updAll,Act.put,aU,aV,aW,aX]
  cases rb with
  | false=>
   have hm:=HM.out
   rw [aG rfl] at hm
   have HMM:=aa hm
   clear hm HM
   go_wp2_with fail
   exact aH (v:=.int .i64 10) rfl rfl rfl ⟨by rw [HMM.out],by rw [HMM.out];exact H.out.stay HB.out⟩
  | true=>
   have c10:=ag HC.out.2.1 HB.out
   have cQ:=ar HC.out.2.2 HB.out.size
   have y1:=ag HQ.out.1 HB.out;have y2:=ag HQ.out.2.1 HB.out;have y3:=ag HQ.out.2.2.1 HB.out;have y4:=ag HQ.out.2.2.2.1 HB.out;have yb:=ar HQ.out.2.2.2.2 HB.out.size
   by_cases h9:500≤p.2.length
   ·have g9:(p.2.length:Int)≥500:=by omega
    have H9:=aa h9
    clear h9
    have hm:=HM.out
    rw [aA (show ¬ (true=false)from by decide),aG (ax H9.out)] at hm
    have HMM:=aa hm
    clear hm HM
    go_wp2_with fail
    exact aH (v:=.int .i64 11) rfl rfl rfl ⟨by rw [HMM.out],by rw [HMM.out];exact H.out.stay HB.out⟩
   ·have g9:¬ (p.2.length:Int)≥500:=by omega
    have H9:=aa h9
    clear h9
    by_cases h10:500≤q.2.length
    ·have g10:(q.2.length:Int)≥500:=by omega
     have H10:=aa h10
     clear h10
     have hm:=HM.out
     rw [aA (show ¬ (true=false)from by decide),aG (ay H10.out)] at hm
     have HMM:=aa hm
     clear hm HM
     go_wp2_with fail
     exact aH (v:=.int .i64 11) rfl rfl rfl ⟨by rw [HMM.out],by rw [HMM.out];exact H.out.stay HB.out⟩
    ·have g10:¬ (q.2.length:Int)≥500:=by omega
     have H10:=aa h10
     clear h10
     by_cases h11:L < 2
     ·skip
      have H11:=aa h11
      have hm:=HM.out
      rw [aA (show ¬ (true=false)from by decide),aA (by have:=H9.out;have:=H10.out;omega),aG H11.out] at hm
      have HMM:=aa hm
      clear hm HM
      go_wp2_with (go_at_call 80;refine(CL.out _ HB.out).mono ?_;rintro e w9 ⟨rfl,hbn⟩;have HB9:=aa (ai HB.out hbn);clear HB hbn;have HB:=HB9;clear HB9)
      exact aH (v:=.int .i64 4) rfl rfl rfl ⟨by rw [HMM.out],by rw [HMM.out];exact H.out.stay HB.out⟩
     ·skip
      have H11:=aa h11
      have hm:=HM.out
      rw [aA (show ¬ (true=false)from by decide),aA (by have:=H9.out;have:=H10.out;omega),aA H11.out] at hm
      have HMM:=aa hm
      clear hm HM
      go_upto_region 18 with(go_at_call 80;refine(CL.out _ HB.out).mono ?_;rintro e w9 ⟨rfl,hbn⟩;have HB9:=aa (ai HB.out hbn);have HT8:=aa (an HT1.out hbn);have HT9:=aa (an HT2.out hbn);clear HB hbn HT1 HT2;have HB:=HB9;have HT1:=HT8;have HT2:=HT9;clear HB9 HT8 HT9)
      obtain⟨x0,x1,x2,x3,x4,x5⟩:=bG HT1.out;have xl:=ak HT1.out
      clear h11 c10 cQ y1 y2 y3 y4 yb g9 g10
      have HBA:=HB
      have CA3:=aa (fun W hW=> CA.out W hW H9.out H11.out)
      go_upto_region 19 with(go_at_call 121;refine(CA3.out _ HB.out).mono ?_;rintro e w1 ⟨rfl,vP1,hr1,hk1⟩;have HR1:=aa hr1;have HK1:=aa hk1;have HT2b:=aa ((hk1.block (T1+1) (ak HT2.out) (fun c=> by have c2:T1+1=Q:=c;have:=HTL.out;have:=HC.out.2.2;omega)).trans HT2.out);clear hr1 hk1)
      clear x0 x1 x2 x3 x4 x5 xl
      obtain⟨z0,z1,z2,z3,z4,z5⟩:=bG HT2b.out;have zl:=ak HT2b.out
      replace CA2:=aa (CA2.out H9.out H11.out _ _ _ HR1.out)
      go_wp2_with (go_at_call 121;refine CA2.out.mono ?_;rintro e w8 ⟨rfl,hN⟩;have HN:=aa (eZ.pre H.out HBA.out (eZ.seq (H.out.step HBA.out) HK1.out hN));clear hN)
      exact aH (v:=.int .i64 0) rfl rfl rfl ⟨by rw [HMM.out],by rw [HMM.out];exact HN.out⟩
theorem sY {w0 w:World} {X:Nat→Prop} {Q:Nat} {vb vP:Value} {a:RegA} (h:bC w0 X Q vb a vP w)(ho:dc a)(hd:HdI a)(b t:Int)(m tn:ByteArray)(hs:m.size≤100):
  Calls Tryz.prog 74 #[.pointer (some ⟨Q,0,none⟩),.int .i64 b,.int .i64 t,.string m,.string tn] w fun en w'=> en=.returned (.int .i64 (moveA a b t m tn).1)∧eZ w0 X Q vb (moveA a b t m tn).2 w w':=by
 by_cases hb:0≤b∧b < a.bks.length
 ·cases h0:modB m with
  | false=> exact vN h ho hd b t m tn hs hb h0
  | true=>
   cases h1:nameB tn with
   | false=> exact vO h ho hd b t m tn hs hb h0 h1
   | true=>
    cases h2:bJ t with
    | false=> exact vQ h ho hd b t m tn hs hb h0 h1 h2
    | true=>
     have hv:=ba h0 (ba h1 h2)
     obtain⟨n,rfl⟩:=Int.eq_ofNat_of_zero_le hb.1
     cases hp:a.ps[whereA m a]? with
     | none=> exact xK h ho hd n t m tn hs hb hv (by have:=List.getElem?_eq_none_iff.1 hp;omega)
     | some p=>
      cases hq:a.ps[findA tn a]? with
      | none=> exact xM h ho hd n t m tn hs hb hv (aB hp).1 (by have:=List.getElem?_eq_none_iff.1 hq;omega)
      | some q=>
       by_cases h6:whereA m a=findA tn a
       ·exact xN h ho hd n t m tn hs hb hv p q hp hq h6
       ·cases h7:cg p.1 (lf p) (bE t m tn)with
        | false=> exact xO h ho hd n t m tn hs hb hv p q hp hq h6 h7
        | true=>
         exact xP h ho hd n t m tn hs hb hv p q hp hq h6 h7
 ·exact xJ h ho hd b t m tn hs hb
end
end Go.Proofs.YtmpilgkfbibhlaaGreatDoor
