/-
 G12T
-/
import Derived.Test.YtmpilgkfbibhlaaGreatDoorG11T
import Derived.Lib.ParseIntB
set_option linter.unusedSimpArgs false
set_option linter.unusedVariables false
set_option maxRecDepth 100000
set_option maxHeartbeats 20000000
namespace Go.Proofs.YtmpilgkfbibhlaaGreatDoor
section
open Sx Go.RowKit Mr
theorem eX {W W5:World} {B B2 E sz n E2 sz2 n2:Nat} {v v2:Value} {xs xs2:List Value} (h:W.ownsRow B E sz v n xs)(hg:W.grownBy W5 v2.ownBlock)(h2:W.ownsRow B2 E2 sz2 v2 n2 xs2)(hE:E≠E2):W5.ownsRow B E sz v n xs:=
 World.ownsRow.kept h hg (by
  cases hb:v.ownBlock with
  | none=> exact ax rfl
  | some k=>
   refine ay fun e=> ?_
   obtain⟨-,c1,e1⟩:=dA h hb
   obtain⟨-,c2,e2⟩:=dA h2 e.symm
   rw [e1] at e2
   simp at e2
   exact hE e2.2)
theorem cV {W W5:World} {B E sz n b:Nat} {T:TypeId} {v:Value} {xs:List Value} {cs:Array Value} {fr:Nat×Nat} (hb:W.heap[b]? =some (.cells cs T fr))(hg:W.grownBy W5 v.ownBlock)(h:W.ownsRow B E sz v n xs)(hT:T≠E):W5.heap[b]? =some (.cells cs T fr):=oQ h hg hb hT
section
variable {B R:Nat} {g:RegS} {vb vp:Value} {W W5:World}
theorem bj.setEs(h:bj B R g vb vp W){i PB cp:Nat} {q:PkV} {y:bR} {v':Value} (hvp:vp=.slice (some ⟨PB,0,none⟩) g.qs.length cp)(hq:g.qs[i]? =some q)(hg:W.grownBy W5 q.ve.ownBlock)(ho:W5.ownsRow B 31 10 v' (q.es.length+1) (bK q.es++bV y))
  (hat:v'.ownBlock=q.ve.ownBlock∨v'.ownBlock=some W.heap.size):bj B R { g with qs:=g.qs.set i { q with es:=q.es++[y],ve:=v' } } vb vp (W5.setCell ⟨PB,i*20+19,none⟩ v'):=by
 have hi:=(aB hq).1
 have hqm:=aJ hq
 obtain⟨PB2,cp2,cur,ea,-,hPB,hcells⟩:=h.packs (by rintro e;rw [e] at hi;simp at hi)
 rw [hvp] at ea
 cases ea
 have hqe:=h.es q hqm
 have hPB5:=cV hPB hg hqe (by decide)
 have hK:dJ W (W5.setCell ⟨PB,i*20+19,none⟩ v'):=fun b cs T fr e n1 n2 n3=> kG hPB5 (ay (ax rfl)) b cs T fr (cV e hg hqe n3) n1 n2 n3
 obtain⟨h1,h2,⟨ab,cb,h3,h4⟩,h5,h6,h7,h8,h9⟩:=h
 have hRP:R≠PB:=fun e=> by
  subst e
  rw [h1] at hPB
  exact absurd hPB (by simp)
 have hlen:(g.qs.set i { q with es:=q.es++[y],ve:=v' }).length=g.qs.length:=List.length_set
 have hOB:bO 116 PB (i*20) 20 W5 (W5.setCell ⟨PB,i*20+19,none⟩ v'):=(bO.start hPB5).set (j:=19) (by decide) v'
 have hset:=bn (o:=i*20+19) (v:=v') hPB5
 have hsz:i*20+20≤cur.size:=by
  have:=hcells i q hq 19 _ rfl
  have:=(Array.getElem?_eq_some_iff.1 this).1
  omega
 refine⟨bA (cV h1 hg hqe (by decide)) hRP,h2,⟨ab,cb,h3,hK.books h4⟩,?_,fun p hp=> ?_,fun p hp=> ?_,fun a b p p2 hab ha hb=> ?_,h9⟩
 ·show(W5.setCell ⟨PB,i*20+19,none⟩ v').ownsRow B 116 20 vp (g.qs.set i { q with es:=q.es++[y],ve:=v' }).length (flatK (g.qs.set i { q with es:=q.es++[y],ve:=v' }))
  rw [hlen]
  refine nZ (eX h5 hg hqe (by decide)) rfl (by rw [hvp];rfl) hi hOB fun j u hj=> ah hset ?_
  have hj20:j < 20:=by have:=(aB hj).1;rwa [eT] at this
  rw [Array.getElem?_setIfInBounds]
  by_cases c:i*20+19=i*20+j
  ·obtain rfl:j=19:=by omega
   rw [aG rfl,aG (by omega)]
   exact hj
  ·rw [aA c]
   refine hcells i q hq j u ?_
   have hc:j < 19:=by omega
   have e:(fK { q with es:=q.es++[y],ve:=v' }).take 19=(fK q).take 19:=rfl
   have e2:=congrArg (fun l=> l[j]?) e
   simp only [List.getElem?_take_of_lt hc] at e2
   rw [← e2];exact hj
 ·rcases ii hp with rfl | ⟨j,-,hj⟩
  ·exact⟨hK.srow (h6 q hqm).1,hK.srow (h6 q hqm).2.1,(h6 q hqm).2.2⟩
  ·have:=h6 p (aJ hj)
   exact⟨hK.srow this.1,hK.srow this.2.1,this.2.2⟩
 ·rcases ii hp with rfl | ⟨j,hne,hj⟩
  ·refine dG ?_ hPB5 (by decide)
   show W5.ownsRow B 31 10 v' (q.es++[y]).length (bK (q.es++[y]))
   rw [cY,lJ]
   exact ho
  ·exact dG (World.ownsRow.kept (h7 p (aJ hj)) hg (h8 j i p q hne hj hq).ne) hPB5 (by decide)
 ·have key:∀ (j:Nat) (x:PkV),(g.qs.set i { q with es:=q.es++[y],ve:=v' })[j]? =some x→(j=i∧x.ve=v')∨(j≠i∧g.qs[j]? =some x):=fun j x hx=> by
   by_cases c:j=i
   ·subst c
    rw [List.getElem?_set_self hi] at hx
    obtain rfl:=bD hx
    exact ax ⟨rfl,rfl⟩
   ·rw [List.getElem?_set_ne (fun e=> c e.symm)] at hx
    exact ay ⟨c,hx⟩
  have far:∀ (j:Nat) (x:PkV),j≠i→g.qs[j]? =some x→Far v' x.ve:=fun j x hne hx k e1 e2=> by
   rcases hat with hat | hat
   ·exact h8 i j q x (fun e=> hne e.symm) hq hx k (hat.symm.trans e1) e2
   ·rw [hat] at e1
    have:=(World.ownsRow.lt (h7 x (aJ hx)) k e2).2
    simp at e1
    omega
  rcases key a p ha with⟨rfl,e1⟩ | ⟨n1,e1⟩
  ·rcases key b p2 hb with⟨rfl,e2⟩ | ⟨n2,e2⟩
   ·exact absurd rfl hab
   ·rw [e1];exact far b p2 n2 e2
  ·rcases key b p2 hb with⟨rfl,e2⟩ | ⟨n2,e2⟩
   ·rw [e2];exact(far a p n1 e1).symm
   ·exact h8 a b p p2 hab e1 e2
end
end
section
open Sx Go.RowKit Mr
theorem lN {W:World} {r:Nat} (hz:W.heap[r]? =some (.cells zeroE 31 (0,0))):W.there r 0 10:=by
  intro j hj
  refine⟨?_,aR hz⟩
  have:j < zeroE.size:=hj
  rw [ah hz (v:=zeroE[j]) (by rw [Nat.zero_add,Array.getElem?_eq_getElem this])]
  rfl
theorem uP {W:World} {r:Nat} (y:bR)(hz:W.heap[r]? =some (.cells zeroE 31 (0,0))):(W.setCells r 0 (bV y)).heap[r]? =some (.cells (bV y).toArray 31 (0,0)):=by
  obtain⟨⟨k,t,a,b,nm,ot⟩,by_,pad,head,tag⟩:=y
  unfold zeroE at hz
  have z0:(W.setCell ⟨r,0,none⟩ (.int .i64 k)).heap[r]? =some (.cells #[(.int .i64 k),(.int .i64 0),(.int .i64 0),(.int .i64 0),(.string ⟨#[]⟩),(.string ⟨#[]⟩),(.int .i64 0),(.int .i64 0),(.int .u64 0),(.int .u64 0)] 31 (0,0)):=bn hz
  have z1:((W.setCell ⟨r,0,none⟩ (.int .i64 k)).setCell ⟨r,1,none⟩ (.int .i64 t)).heap[r]? =some (.cells #[(.int .i64 k),(.int .i64 t),(.int .i64 0),(.int .i64 0),(.string ⟨#[]⟩),(.string ⟨#[]⟩),(.int .i64 0),(.int .i64 0),(.int .u64 0),(.int .u64 0)] 31 (0,0)):=bn z0
  have z2:(((W.setCell ⟨r,0,none⟩ (.int .i64 k)).setCell ⟨r,1,none⟩ (.int .i64 t)).setCell ⟨r,2,none⟩ (.int .i64 a)).heap[r]? =some (.cells #[(.int .i64 k),(.int .i64 t),(.int .i64 a),(.int .i64 0),(.string ⟨#[]⟩),(.string ⟨#[]⟩),(.int .i64 0),(.int .i64 0),(.int .u64 0),(.int .u64 0)] 31 (0,0)):=bn z1
  have z3:((((W.setCell ⟨r,0,none⟩ (.int .i64 k)).setCell ⟨r,1,none⟩ (.int .i64 t)).setCell ⟨r,2,none⟩ (.int .i64 a)).setCell ⟨r,3,none⟩ (.int .i64 b)).heap[r]? =some (.cells #[(.int .i64 k),(.int .i64 t),(.int .i64 a),(.int .i64 b),(.string ⟨#[]⟩),(.string ⟨#[]⟩),(.int .i64 0),(.int .i64 0),(.int .u64 0),(.int .u64 0)] 31 (0,0)):=bn z2
  have z4:(((((W.setCell ⟨r,0,none⟩ (.int .i64 k)).setCell ⟨r,1,none⟩ (.int .i64 t)).setCell ⟨r,2,none⟩ (.int .i64 a)).setCell ⟨r,3,none⟩ (.int .i64 b)).setCell ⟨r,4,none⟩ (.string nm)).heap[r]? =some (.cells #[(.int .i64 k),(.int .i64 t),(.int .i64 a),(.int .i64 b),(.string nm),(.string ⟨#[]⟩),(.int .i64 0),(.int .i64 0),(.int .u64 0),(.int .u64 0)] 31 (0,0)):=bn z3
  have z5:((((((W.setCell ⟨r,0,none⟩ (.int .i64 k)).setCell ⟨r,1,none⟩ (.int .i64 t)).setCell ⟨r,2,none⟩ (.int .i64 a)).setCell ⟨r,3,none⟩ (.int .i64 b)).setCell ⟨r,4,none⟩ (.string nm)).setCell ⟨r,5,none⟩ (.string ot)).heap[r]? =some (.cells #[(.int .i64 k),(.int .i64 t),(.int .i64 a),(.int .i64 b),(.string nm),(.string ot),(.int .i64 0),(.int .i64 0),(.int .u64 0),(.int .u64 0)] 31 (0,0)):=bn z4
  have z6:(((((((W.setCell ⟨r,0,none⟩ (.int .i64 k)).setCell ⟨r,1,none⟩ (.int .i64 t)).setCell ⟨r,2,none⟩ (.int .i64 a)).setCell ⟨r,3,none⟩ (.int .i64 b)).setCell ⟨r,4,none⟩ (.string nm)).setCell ⟨r,5,none⟩ (.string ot)).setCell ⟨r,6,none⟩ (.int .i64 by_)).heap[r]? =some (.cells #[(.int .i64 k),(.int .i64 t),(.int .i64 a),(.int .i64 b),(.string nm),(.string ot),(.int .i64 by_),(.int .i64 0),(.int .u64 0),(.int .u64 0)] 31 (0,0)):=bn z5
  have z7:((((((((W.setCell ⟨r,0,none⟩ (.int .i64 k)).setCell ⟨r,1,none⟩ (.int .i64 t)).setCell ⟨r,2,none⟩ (.int .i64 a)).setCell ⟨r,3,none⟩ (.int .i64 b)).setCell ⟨r,4,none⟩ (.string nm)).setCell ⟨r,5,none⟩ (.string ot)).setCell ⟨r,6,none⟩ (.int .i64 by_)).setCell ⟨r,7,none⟩ (.int .i64 pad)).heap[r]? =some (.cells #[(.int .i64 k),(.int .i64 t),(.int .i64 a),(.int .i64 b),(.string nm),(.string ot),(.int .i64 by_),(.int .i64 pad),(.int .u64 0),(.int .u64 0)] 31 (0,0)):=bn z6
  have z8:(((((((((W.setCell ⟨r,0,none⟩ (.int .i64 k)).setCell ⟨r,1,none⟩ (.int .i64 t)).setCell ⟨r,2,none⟩ (.int .i64 a)).setCell ⟨r,3,none⟩ (.int .i64 b)).setCell ⟨r,4,none⟩ (.string nm)).setCell ⟨r,5,none⟩ (.string ot)).setCell ⟨r,6,none⟩ (.int .i64 by_)).setCell ⟨r,7,none⟩ (.int .i64 pad)).setCell ⟨r,8,none⟩ (.int .u64 (head:Int))).heap[r]? =some (.cells #[(.int .i64 k),(.int .i64 t),(.int .i64 a),(.int .i64 b),(.string nm),(.string ot),(.int .i64 by_),(.int .i64 pad),(.int .u64 (head:Int)),(.int .u64 0)] 31 (0,0)):=bn z7
  have z9:((((((((((W.setCell ⟨r,0,none⟩ (.int .i64 k)).setCell ⟨r,1,none⟩ (.int .i64 t)).setCell ⟨r,2,none⟩ (.int .i64 a)).setCell ⟨r,3,none⟩ (.int .i64 b)).setCell ⟨r,4,none⟩ (.string nm)).setCell ⟨r,5,none⟩ (.string ot)).setCell ⟨r,6,none⟩ (.int .i64 by_)).setCell ⟨r,7,none⟩ (.int .i64 pad)).setCell ⟨r,8,none⟩ (.int .u64 (head:Int))).setCell ⟨r,9,none⟩ (.int .u64 (tag:Int))).heap[r]? =some (.cells #[(.int .i64 k),(.int .i64 t),(.int .i64 a),(.int .i64 b),(.string nm),(.string ot),(.int .i64 by_),(.int .i64 pad),(.int .u64 (head:Int)),(.int .u64 (tag:Int))] 31 (0,0)):=bn z8
  exact z9
structure mL(w0:World)(y:bR)(b0 b1:Bool)(v0:Value)(W:World):Prop where
  bel:Below w0.heap.size w0 W
  bx:b0=true→∃ r,v0=.pointer (some ⟨r,0,none⟩)∧w0.heap.size≤r∧W.heap[r]? =some (.cells (bif b1 then(bV y).toArray else zeroE) 31 (0,0))
  n:b0=false→b1=false
section
variable {w0 W w2:World} {y:bR} {b0 b1:Bool} {v0:Value}
theorem mL.step(h:mL w0 y b0 b1 v0 W)(hb:Below W.heap.size W w2):mL w0 y b0 b1 v0 w2:=⟨ai h.bel hb,fun e=> by obtain⟨r,q1,q2,q3⟩:=h.bx e;exact⟨r,q1,q2,an q3 hb⟩,h.n⟩
theorem mL.mk0(h:mL w0 y false false v0 W):mL w0 y true false (.pointer (some ⟨W.heap.size,0,none⟩)) (W.alloc (.cells zeroE 31)):=⟨ai h.bel bU,fun _=> ⟨_,rfl,h.bel.size,au W _⟩,fun e=> by cases e⟩
theorem mL.put {r:Nat} (h:mL w0 y true false (.pointer (some ⟨r,0,none⟩)) W):mL w0 y true true (.pointer (some ⟨r,0,none⟩)) (W.setCells r 0 (bV y)):=by
  obtain⟨r2,q1,q2,q3⟩:=h.bx rfl
  cases q1
  exact⟨jz _ _ h.bel q2,fun _=> ⟨r,rfl,q2,uP y q3⟩,fun e=> by cases e⟩
end
structure lh(P0 P2:World→Prop)(Bs r:Nat)(y:bR)(ve:Value)(n:Nat)(xs:List Value)(b0 bY b1 b2 b3:Bool)(v0 vY v1 v2:Value)(W:World):Prop where
  a:b2=false→P0 W
  m:b2=true→b3=false→∃ Wb,P0 Wb∧Wb.grownBy W ve.ownBlock∧(v2.ownBlock=ve.ownBlock∨v2.ownBlock=some Wb.heap.size)∧W.ownsRow Bs 31 10 v2 (n+1) (xs++bV y)
  z:b3=true→P2 W
  r0:b0=true→v0=ve
  r1:b1=true→b2=false→∃ g,v1=.slice (some ⟨g,0,none⟩) 1 1∧W.heap[g]? =some (.cells (bV y).toArray 31 (0,0))
  n0:b0=false→b2=false
  n1:b1=false→b2=false
  n2:b2=false→b3=false
  ry:bY=true→vY=dU y
  nY:bY=false→b1=false
  yb:b2=false→W.heap[r]? =some (.cells (bV y).toArray 31 (0,0))
  hb:Bs≤W.heap.size
theorem pU {W W1 w2:World} {k:Option Nat} (h:W.grownBy W1 k)(hb:Below W1.heap.size W1 w2):W.grownBy w2 k:=
  ⟨hb.os.trans h.os,hb.tape.trans h.tape,hb.output.trans h.output,Nat.le_trans h.size hb.size,fun j hj hn=> (hb.block j (ar hj h.size)).trans (h.block j hj hn)⟩
theorem jY:(Tryz.prog.info? 31).map (fun i=> (i.zero,i.size,i.bytes))=some (some (.agg #[.int .i64 0,.int .i64 0,.int .i64 0,.int .i64 0,.string ⟨#[]⟩,.string ⟨#[]⟩,.int .i64 0,.int .i64 0,.int .u64 0,.int .u64 0]),10,96):=by kernel_rfl
theorem kH(y:bR):∀ u∈bV y,u.oneCell'=true:=by
  obtain⟨⟨k,t,a,b,nm,ot⟩,by_,pad,head,tag⟩:=y
  intro v hv
  simp only [bV,List.mem_cons,List.not_mem_nil,or_false] at hv
  rcases hv with rfl | rfl | rfl | rfl | rfl | rfl | rfl | rfl | rfl | rfl <;> rfl
section
variable {P0 P2:World→Prop} {Bs r n:Nat} {y:bR} {ve:Value} {xs:List Value} {b0 bY b1 b2 b3:Bool} {v0 vY v1 v2:Value} {W w2:World}
theorem lh.step(hP:∀ W w2,P0 W→Below W.heap.size W w2→P0 w2)(hP2:∀ W w2,P2 W→Below W.heap.size W w2→P2 w2)(h:lh P0 P2 Bs r y ve n xs b0 bY b1 b2 b3 v0 vY v1 v2 W)(hb:Below W.heap.size W w2):lh P0 P2 Bs r y ve n xs b0 bY b1 b2 b3 v0 vY v1 v2 w2:=
  ⟨fun e=> hP _ _ (h.a e) hb,fun e1 e2=> by obtain⟨Wb,q1,q2,q3,q4⟩:=h.m e1 e2;exact⟨Wb,q1,pU q2 hb,q3,aD q4 hb⟩,fun e=> hP2 _ _ (h.z e) hb,h.r0,
   fun e1 e2=> by obtain⟨g,q1,q2⟩:=h.r1 e1 e2;exact⟨g,q1,an q2 hb⟩,h.n0,h.n1,h.n2,h.ry,h.nY,(fun e=> an (h.yb e) hb),Nat.le_trans h.hb hb.size⟩
theorem lh.mk0(h:lh P0 P2 Bs r y ve n xs false bY b1 false false v0 vY v1 v2 W):lh P0 P2 Bs r y ve n xs true bY b1 false false ve vY v1 v2 W:=
  ⟨h.a,(fun e=> by cases e),(fun e=> by cases e),fun _=> rfl,h.r1,(fun e=> by cases e),h.n1,h.n2,h.ry,h.nY,h.yb,h.hb⟩
theorem lh.mkY(h:lh P0 P2 Bs r y ve n xs b0 false false false false v0 vY v1 v2 W):lh P0 P2 Bs r y ve n xs b0 true false false false v0 (dU y) v1 v2 W:=
  ⟨h.a,(fun e=> by cases e),(fun e=> by cases e),h.r0,h.r1,h.n0,h.n1,h.n2,(fun _=> rfl),(fun e=> by cases e),h.yb,h.hb⟩
theorem lh.mk1(hP:∀ W w2,P0 W→Below W.heap.size W w2→P0 w2)(h:lh P0 P2 Bs r y ve n xs b0 true false false false v0 vY v1 v2 W):lh P0 P2 Bs r y ve n xs b0 true true false false v0 vY (.slice (some ⟨W.heap.size,0,none⟩) 1 1) v2 (W.alloc (.cells (bV y).toArray 31)):=
  ⟨fun e=> hP _ _ (h.a e) bU,(fun e=> by cases e),(fun e=> by cases e),h.r0,(fun _ _=> ⟨_,rfl,au W _⟩),h.n0,(fun _=> rfl),h.n2,h.ry,(fun e=> by cases e),(fun e=> an (h.yb e) bU),Nat.le_trans h.hb bU.size⟩
theorem lh.app {o:Oper} {a:Act} {K:Act→World→Prop} {Q:Exit→Act→World→Prop} (hown:∀ W,P0 W→W.ownsRow Bs 31 10 ve n xs)(hn:n≤100000)(h:lh P0 P2 Bs r y ve n xs true bY true false false v0 vY v1 v2 W)
    (s p:Operand) (ho:o.op=.call { callee:=.builtin .append,args:=#[s,p],argTypes:=#[24,24] }) (hs:a.eval s=v0) (hp:a.eval p=v1)
    (hK:∀ v' W',lh P0 P2 Bs r y ve n xs true bY true true false v0 vY v1 v' W'→K (a.put o.dst v') W'):o.wp Tryz.prog a W K Q:=by
  obtain⟨i0,hi,hz0,hz1,hz2⟩:=info_parts jY
  obtain rfl:=h.r0 rfl
  obtain⟨g,rfl,hg⟩:=h.r1 rfl rfl
  refine fc (P:=Tryz.prog) W s p 24 ho Bs 31 i0 _ 10 96 Tryz.underlying24 hi hz0 hz1 hz2 rfl (by decide) v0 n xs hs (hown W (h.a rfl)) (some ⟨g,0,none⟩) 1 1 (bV y) hp (by rw [dD]) (fun _=> ⟨g,0,rfl,fun j u hu=> ah hg (by rw [Nat.zero_add];simpa using hu)⟩) (kH y) (by unfold maxLen;omega) (by omega) h.hb fun v' W' q1 q2 q3=> hK v' W' ?_
  exact⟨(fun e=> by cases e),(fun _ _=> ⟨W,h.a rfl,q2,q3,q1⟩),(fun e=> by cases e),(fun _=> rfl),(fun _ e=> by cases e),(fun e=> by cases e),(fun e=> by cases e),(fun e=> by cases e),h.ry,h.nY,(fun e=> by cases e),Nat.le_trans h.hb q2.size⟩
end
structure bP(S:Nat→Prop)(w W:World):Prop where
  os:W.os=w.os
  tape:W.tape=w.tape
  output:W.output=w.output
  size:w.heap.size≤W.heap.size
  block:∀ k,k < w.heap.size→¬ S k→W.heap[k]? =w.heap[k]?
section
variable {S:Nat→Prop} {w W w2:World}
theorem bP.of_below(h:Below w.heap.size w W):bP S w W:=⟨h.os,h.tape,h.output,h.size,fun k hk _=> h.block k hk⟩
theorem bP.step(h:bP S w W)(hb:Below W.heap.size W w2):bP S w w2:=
  ⟨hb.os.trans h.os,hb.tape.trans h.tape,hb.output.trans h.output,Nat.le_trans h.size hb.size,fun k hk hn=> (hb.block k (ar hk h.size)).trans (h.block k hk hn)⟩
theorem bP.set {P o:Nat} {u:Value} (h:bP S w W)(hP:S P):bP S w (W.setCell ⟨P,o,none⟩ u):=by
  refine⟨h.os,h.tape,h.output,by simpa using h.size,fun k hk hn=> ?_⟩
  rw [Below.heap_setCell _ _ _ _ (fun e=> hn (by have e2:k=P:=e;rw [e2];exact hP))]
  exact h.block k hk hn
theorem bP.grown {k0:Option Nat} (h:bP S w W)(hg:W.grownBy w2 k0)(hS:∀ k,k0=some k→k < w.heap.size→S k):bP S w w2:=
  ⟨hg.os.trans h.os,hg.tape.trans h.tape,hg.output.trans h.output,Nat.le_trans h.size hg.size,fun k hk hn=> (hg.block k (ar hk h.size) (fun e=> hn (hS k e.symm hk))).trans (h.block k hk hn)⟩
theorem bP.only {T:TypeId} {PB off m:Nat} (h:bP S w W)(ho:bO T PB off m W w2)(hP:S PB):bP S w w2:=
  ⟨ho.os.trans h.os,ho.tape.trans h.tape,ho.output.trans h.output,Nat.le_trans h.size ho.size,fun k hk hn=> (ho.block k (ar hk h.size) (fun e=> hn (e ▸ hP))).trans (h.block k hk hn)⟩
end
theorem bj.base {B R:Nat} {g:RegS} {vb vp:Value} {W:World} (h:bj B R g vb vp W):B≤W.drew.heap.size:=Nat.le_trans h.hB (Nat.le_of_lt (ak h.reg))
structure ej(B R:Nat)(g:RegS)(vb vp:Value)(y:bR)(r E:Nat)(e:bQ)(S:Nat→Prop)(w W:World):Prop where
  ra:bj B R g vb vp W
  yb:W.heap[r]? =some (.cells (bV y).toArray 31 (0,0))
  eb:W.heap[E]? =some (.cells (gg e).toArray 29 (0,0))
  kp:bP S w W
section
variable {B R r E i PB cp k u:Nat} {g:RegS} {vb vp:Value} {y:bR} {e:bQ} {S:Nat→Prop} {w W W5 w2:World} {q q':PkV} {v':Value}
theorem ej.step(h:ej B R g vb vp y r E e S w W)(hb:Below W.heap.size W w2):ej B R g vb vp y r E e S w w2:=⟨h.ra.step hb,an h.yb hb,an h.eb hb,h.kp.step hb⟩
theorem ej.used(h:ej B R g vb vp y r E e S w W)(hk:k < 8)(hS:S R):ej B R { g with used:=g.used.set k u } vb vp y r E e S w (W.setCell ⟨R,2+k,none⟩ (.int .i64 (u:Int))):=by
  have hR:=h.ra.reg
  refine⟨h.ra.setUsed hk,bA h.yb (fun c=> ?_),bA h.eb (fun c=> ?_),h.kp.set hS⟩
  · have c2:r=R:=c
    have:=h.yb
    rw [c2,hR] at this
    exact absurd this (by simp)
  · have c2:E=R:=c
    have:=h.eb
    rw [c2,hR] at this
    exact absurd this (by simp)
theorem ej.ents(h:ej B R g vb vp y r E e S w W)(hvp:vp=.slice (some ⟨PB,0,none⟩) g.qs.length cp)(hq:g.qs[i]? =some q)(hg:W.grownBy W5 q.ve.ownBlock)(ho:W5.ownsRow B 31 10 v' (q.es.length+1) (bK q.es++bV y))
    (hat:v'.ownBlock=q.ve.ownBlock∨v'.ownBlock=some W.heap.size) (hr:∀ k,q.ve.ownBlock=some k→k≠r) (hS:S PB) (hS2:∀ k,q.ve.ownBlock=some k→k < w.heap.size→S k):
    ej B R { g with qs:=g.qs.set i { q with es:=q.es++[y],ve:=v' } } vb vp y r E e S w (W5.setCell ⟨PB,i*20+19,none⟩ v'):=by
  have hqm:=aJ hq
  obtain⟨PB2,cp2,cur,ea,-,hPB,-⟩:=h.ra.packs (by rintro e;rw [e] at hq;cases hq)
  rw [hvp] at ea
  cases ea
  have hPB5:=cV hPB hg (h.ra.es q hqm) (by decide)
  refine⟨h.ra.setEs hvp hq hg ho hat,bA ((hg.block r (ak h.yb) (fun c=> hr r c.symm rfl)).trans h.yb) (fun c=> ?_),bA (cV h.eb hg (h.ra.es q hqm) (by decide)) (fun c=> ?_),(h.kp.grown hg hS2).set hS⟩
  · have c2:r=PB:=c
    have:=h.yb
    rw [c2,hPB] at this
    exact absurd this (by simp)
  · have c2:E=PB:=c
    have:=h.eb
    rw [c2,hPB] at this
    exact absurd this (by simp)
theorem ej.pk(h:ej B R g vb vp y r E e S w W)(hvp:vp=.slice (some ⟨PB,0,none⟩) g.qs.length cp)(hq:g.qs[i]? =some q)(ho:bO 116 PB (i*20) 20 W w2)(hc:∀ (j:Nat) (u:Value),(fK q')[j]? =some u→w2.cell? ⟨PB,i*20+j,none⟩=some u)
    (hm:bH q'.vm q'.life.ms w2∧bH q'.vo q'.life.os w2∧(q'.life.n=0→q'.vm=.slice none 0 0∧q'.life.ms=[])) (he:q'.ve=q.ve∧q'.es=q.es) (hS:S PB):ej B R { g with qs:=g.qs.set i q' } vb vp y r E e S w w2:=by
  obtain⟨cs,cs',c1,-⟩:=ho.cells
  refine⟨h.ra.setPk hvp hq ho hc hm he,(ho.block r (ak h.yb) (fun c=> ?_)).trans h.yb,(ho.block E (ak h.eb) (fun c=> ?_)).trans h.eb,h.kp.only ho hS⟩
  · have:=h.yb
    rw [c,c1] at this
    exact absurd this (by simp)
  · have:=h.eb
    rw [c,c1] at this
    exact absurd this (by simp)
end
end
section
open Sx Go.RowKit Mr
section
variable {T:TypeId} {B R r E i PB cp off n m:Nat} {g:RegS} {vb vp vm' vo':Value} {y:bR} {e:bQ} {S:Nat→Prop} {w W w2:World} {q:PkV} {x':LifeS}
theorem bO.wide(h:bO T B off n w W)(hn:n≤m):bO T B off m w W:=by
 obtain⟨cs,cs',h1,h2,h3,h4⟩:=h.cells
 exact⟨h.os,h.tape,h.output,h.size,h.lt,h.block,cs,cs',h1,h2,h3,fun j hj=> h4 j (by omega)⟩
theorem ej.hd(h:ej B R g vb vp y r E e S w W)(hvp:vp=.slice (some ⟨PB,0,none⟩) g.qs.length cp)(hq:g.qs[i]? =some q)(hS:S PB)(n:Nat):
  ej B R { g with qs:=g.qs.set i { q with hd:=n } } vb vp y r E e S w (W.setCell ⟨PB,i*20+18,none⟩ (.int .u64 (n:Int))):=by
 obtain⟨PB2,cp2,cur,ea,-,hPB,hcl⟩:=h.ra.packs (by rintro e;rw [e] at hq;cases hq)
 rw [hvp] at ea
 cases ea
 have ho:=(bO.start (off:=i*20) (n:=20) hPB).set (j:=18) (by omega) (.int .u64 (n:Int))
 obtain⟨m1,m2,m3⟩:=h.ra.ms q (aJ hq)
 have hT:116≠9:=by decide
 refine h.pk (q':={ q with hd:=n }) hvp hq ho (fun j u hj=> ?_) ⟨m1.only ho hT,m2.only ho hT,m3⟩ ⟨rfl,rfl⟩ hS
 refine ah (bn hPB) ?_
 rw [Array.getElem?_setIfInBounds]
 have hj20:j < 20:=(aB hj).1
 by_cases hj8:j=18
 ·subst hj8
  have hz:=(Array.getElem?_eq_some_iff.1 (hcl i q hq 18 _ rfl)).1
  rw [aG rfl,aG hz]
  exact hj
 ·rw [aA (by omega)]
  refine hcl i q hq j u ?_
  unfold fK at hj ⊢
  by_cases h18:j < 18
  ·rw [List.getElem?_append_left (by exact h18)] at hj ⊢
   exact hj
  ·obtain rfl:j=19:=by omega
   exact hj
theorem ej.life(h:ej B R g vb vp y r E e S w W)(hvp:vp=.slice (some ⟨PB,0,none⟩) g.qs.length cp)(hq:g.qs[i]? =some q)(hS:S PB)(hl:bw 116 PB (i*20) q.nm x' vm' vo' w2)(ho:bO 116 PB (i*20) 18 W w2)(hn:x'.n≠0):
  ej B R { g with qs:=g.qs.set i { q with life:=x',vm:=vm',vo:=vo' } } vb vp y r E e S w w2:=by
 obtain⟨PB2,cp2,cur,ea,-,hPB,hcl⟩:=h.ra.packs (by rintro e;rw [e] at hq;cases hq)
 rw [hvp] at ea
 cases ea
 obtain⟨⟨cs2,e2,e3⟩,m1,m2⟩:=hl
 refine h.pk (q':={ q with life:=x',vm:=vm',vo:=vo' }) hvp hq (ho.wide (by omega)) (fun j u hj=> ?_) ⟨m1,m2,fun h0=> absurd h0 hn⟩ ⟨rfl,rfl⟩ hS
 refine ah e2 ?_
 have hj20:j < 20:=(aB hj).1
 unfold fK at hj
 by_cases h18:j < 18
 ·rw [List.getElem?_append_left (by exact h18)] at hj
  exact e3 j u hj
 ·obtain⟨cs,cs',c1,c2,c3,c4⟩:=ho.cells
  rw [hPB] at c1
  simp at c1
  obtain rfl:=c1
  rw [e2] at c2
  simp at c2
  obtain rfl:=c2
  rw [c4 _ (ay (by omega))]
  refine hcl i q hq j u ?_
  unfold fK
  rw [List.getElem?_append_right (by show 18≤j;omega)] at hj ⊢
  exact hj
end
end
section
open Sx Go.RowKit Mr
structure uQ(P C0 C1:World→Prop)(b:Bool)(W:World):Prop where
 p:P W
 a:b=false→C0 W
 z:b=true→C1 W
def oa(X:Value→Value→Prop)(B R:Nat)(g:RegS)(vb vp:Value)(PB i n u:Nat)(q:PkV)(y:bR)(e:bQ)(w w':World):Prop:=
 ∃ vm' vo' v',bj B R { g with used:=g.used.set n (u+1),qs:=g.qs.set i { q with es:=q.es++[y],ve:=v',hd:=y.2.2.2.1,life:=q.life.add q.nm e,vm:=vm',vo:=vo' } } vb vp w'∧
  bP (fun k=> k=R∨k=PB∨q.ve.ownBlock=some k) w w'∧(v'.ownBlock=q.ve.ownBlock∨∃ k9,w.heap.size≤k9∧v'.ownBlock=some k9)∧X vm' vo'
theorem sl {X:Value→Value→Prop} {B R:Nat} {g:RegS} {vb:Value} {w:World} {PB cp i n u pd cb bb ob:Nat} {q:PkV} {bk:Bk} (h:bj B R g vb (.slice (some ⟨PB,0,none⟩) g.qs.length cp) w)(hq:g.qs[i]? =some q)(hvb:vb=.slice (some ⟨bb,ob,none⟩) g.bks.length cb)(hbk:g.bks[n]? =some bk)(hu:g.used.getD n 0=u)(hpd:bk.2[u]? =some pd)
  (e:bQ) (hok:eC e=true) (hsz:e.2.2.2.2.1.size≤100∧e.2.2.2.2.2.size≤100) (hsec:secR g.pt g.bks=0) (hes:q.es.length≤100000) (hCA:∀ W,w.heap.size≤W.heap.size→bw 116 PB (i*20) q.nm q.life q.vm q.vo W→(q.life.n=0→q.vm=.slice none 0 0∧q.life.ms=[])→Calls Tryz.prog 46 #[.pointer (some ⟨PB,i*20,none⟩),kZ e] W fun en w'=> en=.returned (.tuple #[])∧∃ vm' vo',bw 116 PB (i*20) q.nm (q.life.add q.nm e) vm' vo' w'∧bO 116 PB (i*20) 18 W w'∧X vm' vo'):
  Calls Tryz.prog 65 #[.pointer (some ⟨R,0,none⟩),.int .i64 (n:Int),.pointer (some ⟨PB,i*20,none⟩),kZ e] w fun en w'=> en=.returned (.tuple #[])∧oa X B R g vb (.slice (some ⟨PB,0,none⟩) g.qs.length cp) PB i n u q (fg g.pt g.bks q.hd e n u) e w w':=by
 obtain⟨hb1,hb8,hbks⟩:=fW hsec
 have hbd:=hbks bk (aJ hbk)
 have hn8:n < 8:=by have:=(aB hbk).1;omega
 have hn0:(0:Int)≤n:=by omega
 have hn8i:(n:Int) < 8:=by omega
 have hu5:(u:Int)≤5000:=by have:=(aB hpd).1;have:=hbd.2.1;omega
 have hu0:(0:Int)≤u:=by omega
 obtain⟨ab,cb2,evb,hBk⟩:=h.bk
 rw [hvb] at evb
 cases evb
 obtain⟨hL,hhd,hve⟩:=h.life rfl hq
 obtain⟨c0,c1,-,cl,cu⟩:=h.cells
 have cun:=cu n hn8
 rw [hu] at cun
 subst hvb
 obtain⟨y,hy⟩:∃ y,fg g.pt g.bks q.hd e n u=y:=⟨_,rfl⟩
 have hPl:=hL.lt
 have HC:=aa (ba c0 (ba c1 (ba cun hhd)))
 have HLT:=aa (ba cl hPl)
 have CN:Hid (∀ W,Below w.heap.size w W→Calls Tryz.prog 45 #[.pointer (some ⟨PB,i*20+18,none⟩),.int .u64 (g.pt:Int),.slice (some ⟨bb,ob,none⟩) g.bks.length cb,kZ e,.int .i64 (n:Int),.int .i64 (u:Int)] W fun en w'=> en=.returned (dU y)∧Below W.heap.size W w'):=fun W hW=> by
  rw [← hy]
  exact uI g.pt cb PB (i*20+18) q.hd n u pd bk e hok hsz ((dJ.of_below hW).books hBk).at_ (ag hhd hW) (ar hPl hW.size) hbk hb8.2 hpd (by omega) (by have:=hb1.2;unfold P31 at this;omega) (by have:=hbd.1.2;unfold P31 at this;omega) (by have:=hbd.2.2 pd (aJ hpd);unfold P31 at this;omega)
 have H:=aa h
 have HES:=aa hes
 rw [hy]
 have CA:=aa hCA
 obtain⟨k,t,ea,eb,nm,ot⟩:=e
 replace CN:Hid (∀ W,Below w.heap.size w W→Calls Tryz.prog 45 #[.pointer (some ⟨PB,i*20+18,none⟩),.int .u64 (g.pt:Int),.slice (some ⟨bb,ob,none⟩) g.bks.length cb,.agg #[.int .i64 k,.int .i64 t,.int .i64 ea,.int .i64 eb,.string nm,.string ot],.int .i64 (n:Int),.int .i64 (u:Int)] W fun en w'=> en=.returned (dU y)∧Below W.heap.size W w'):=CN
 replace CA:Hid (∀ W,w.heap.size≤W.heap.size→bw 116 PB (i*20) q.nm q.life q.vm q.vo W→(q.life.n=0→q.vm=.slice none 0 0∧q.life.ms=[])→Calls Tryz.prog 46 #[.pointer (some ⟨PB,i*20,none⟩),.agg #[.int .i64 k,.int .i64 t,.int .i64 ea,.int .i64 eb,.string nm,.string ot]] W fun en w'=> en=.returned (.tuple #[])∧∃ vm' vo',bw 116 PB (i*20) q.nm (q.life.add q.nm (k,t,ea,eb,nm,ot)) vm' vo' w'∧bO 116 PB (i*20) 18 W w'∧X vm' vo'):=CA
 change Calls Tryz.prog 65 #[.pointer (some ⟨R,0,none⟩),.int .i64 (n:Int),.pointer (some ⟨PB,i*20,none⟩),.agg #[.int .i64 k,.int .i64 t,.int .i64 ea,.int .i64 eb,.string nm,.string ot]] w _
 have HX:=aa (au w (.cells #[.int .i64 k,.int .i64 t,.int .i64 ea,.int .i64 eb,.string nm,.string ot] 29))
 have HB0:=aa (bU (W:=w) (o:=(.cells #[.int .i64 k,.int .i64 t,.int .i64 ea,.int .i64 eb,.string nm,.string ot] 29)))
 clear h c0 c1 cun hhd hve hL cu hBk hPl cl hb1 hb8 hbks hbd hok hsz hsec hbk hpd hCA
 go_enter Tryz.func65,Tryz.ntmps65
 go_upto_region 1 with fail
 generalize w.alloc (.cells #[.int .i64 k,.int .i64 t,.int .i64 ea,.int .i64 eb,.string nm,.string ot] 29)=w0 at*
 refine bo 22 22 60 [(20,8),(21,61)] [(none,[]),(none,[]),(none,[]),(none,[]),(none,[]),(none,[]),(none,[]),(none,[]),(none,[]),(none,[]),(none,[]),(none,[]),(none,[]),(none,[]),(none,[]),(none,[]),(none,[]),(none,[]),(none,[]),(none,[]),(some 0,[]),(some 1,[0])] [(9,(.pointer (some ⟨PB,i*20,none⟩))),(10,(.pointer (some ⟨PB,i*20,none⟩))),(11,(.pointer (some ⟨PB,i*20+18,none⟩))),(12,(.pointer (some ⟨R,0,none⟩))),(13,(.pointer (some ⟨R,0,none⟩))),(14,(.pointer (some ⟨R,0,none⟩))),(15,(.int .u64 (g.pt:Int))),(16,(.pointer (some ⟨R,0,none⟩))),(17,(.pointer (some ⟨R,0,none⟩))),(18,(.pointer (some ⟨R,1,none⟩))),(19,(.slice (some ⟨bb,ob,none⟩) g.bks.length cb)),(20,(.agg #[.int .i64 k,.int .i64 t,.int .i64 ea,.int .i64 eb,.string nm,.string ot])),(21,(.int .i64 (n:Int))),(22,(.pointer (some ⟨R,0,none⟩))),(23,(.int .i64 (n:Int))),(24,(.pointer (some ⟨R,0,none⟩))),(25,(.pointer (some ⟨R,2,none⟩))),(26,(.pointer (some ⟨R,2+n,none⟩))),(27,(.int .i64 (u:Int))),(28,(dU y))] (fun bsE vsE W=> mL w0 y (bsE.getD 0 false) (bsE.getD 1 false) ((vsE.getD 0 undef)) W) (by kernel_rfl) (by kernel_rfl) rfl rfl (by kernel_rfl) (by rfl) ?h0 ?each ?done
 case h0=>
  intro vsE hlv
  obtain⟨v0,v1,rfl⟩:=cd hlv
  exact⟨(Below.refl _ _).drew,(fun e=> by cases e),(fun _=> rfl)⟩
 case each=>
  simp only [dp]
  refine⟨⟨9,(.pointer (some ⟨PB,i*20,none⟩)),rfl,by kernel_rfl,?_⟩,⟨10,(.pointer (some ⟨PB,i*20,none⟩)),rfl,by kernel_rfl,?_⟩,⟨11,(.pointer (some ⟨PB,i*20+18,none⟩)),rfl,by kernel_rfl,?_⟩,⟨12,(.pointer (some ⟨R,0,none⟩)),rfl,by kernel_rfl,?_⟩,⟨13,(.pointer (some ⟨R,0,none⟩)),rfl,by kernel_rfl,?_⟩,⟨14,(.pointer (some ⟨R,0,none⟩)),rfl,by kernel_rfl,?_⟩,⟨15,(.int .u64 (g.pt:Int)),rfl,by kernel_rfl,?_⟩,⟨16,(.pointer (some ⟨R,0,none⟩)),rfl,by kernel_rfl,?_⟩,⟨17,(.pointer (some ⟨R,0,none⟩)),rfl,by kernel_rfl,?_⟩,⟨18,(.pointer (some ⟨R,1,none⟩)),rfl,by kernel_rfl,?_⟩,⟨19,(.slice (some ⟨bb,ob,none⟩) g.bks.length cb),rfl,by kernel_rfl,?_⟩,⟨20,(.agg #[.int .i64 k,.int .i64 t,.int .i64 ea,.int .i64 eb,.string nm,.string ot]),rfl,by kernel_rfl,?_⟩,⟨21,(.int .i64 (n:Int)),rfl,by kernel_rfl,?_⟩,⟨22,(.pointer (some ⟨R,0,none⟩)),rfl,by kernel_rfl,?_⟩,⟨23,(.int .i64 (n:Int)),rfl,by kernel_rfl,?_⟩,⟨24,(.pointer (some ⟨R,0,none⟩)),rfl,by kernel_rfl,?_⟩,⟨25,(.pointer (some ⟨R,2,none⟩)),rfl,by kernel_rfl,?_⟩,⟨26,(.pointer (some ⟨R,2+n,none⟩)),rfl,by kernel_rfl,?_⟩,⟨27,(.int .i64 (u:Int)),rfl,by kernel_rfl,?_⟩,⟨28,(dU y),rfl,by kernel_rfl,?q4_19⟩,ax ⟨8,rfl,?q4_20⟩,ay ⟨rfl,?q4_21⟩,trivial⟩
  case q4_19=>
   intro bsE vsE W hlb hlv hnd h
   obtain⟨b0,b1,rfl⟩:=cd hlb
   obtain⟨v0,v1,rfl⟩:=cd hlv
   replace h:mL w0 y b0 b1 (v0) W:=h
   clear hnd
   have HST:=aa h
   have hbw:=ai HB0.out h.bel;have c0:=ag HC.out.1 hbw;have c1:=ag HC.out.2.1 hbw;have c2:=ag HC.out.2.2.1 hbw;have c3:=ag HC.out.2.2.2 hbw;have l1:=ar HLT.out.1 hbw.size;have l2:=ar HLT.out.2 hbw.size;have HXW:=an HX.out h.bel;obtain⟨x0,x1,x2,x3,x4,x5⟩:=bG HXW;have xl:=ak HXW;clear HXW hbw
   intro K Q hK
   simp only [az,updAll,Act.put,aU,aV,aW,aX] at hK ⊢
   go_wp2_with (go_at_call 45;refine(CN.out _ (ai HB0.out h.bel)).mono ?_;rintro e w9 ⟨rfl,hb9⟩)
   all_goals(first | exact hK _ (h.step hb9) | exact(h.step hb9))
  case q4_20=>
   intro bsE vsE W hlb hlv hnd hbk h
   obtain⟨b0,b1,rfl⟩:=cd hlb
   obtain⟨v0,v1,rfl⟩:=cd hlv
   obtain rfl:b0=false:=hbk
   replace h:mL w0 y false b1 (v0) W:=h
   clear hnd
   have HST:=aa h
   obtain rfl:=h.n rfl
   intro K Q hK
   simp only [az,updAll,Act.put,aU,aV,aW,aX] at hK ⊢
   go_wp2_with fail
   all_goals(have hm:=h.mk0)
   all_goals(first | exact hK _ _ hm | exact hm)
  case q4_21=>
   intro bsE vsE W hlb hlv hnd hbk h
   obtain⟨b0,b1,rfl⟩:=cd hlb
   obtain⟨v0,v1,rfl⟩:=cd hlv
   obtain rfl:b0=true:=hnd 0 (by simp)
   obtain rfl:b1=false:=hbk
   replace h:mL w0 y true false (v0) W:=h
   clear hnd
   have HST:=aa h
   obtain⟨r,er,hr1,hr2⟩:=h.bx rfl;subst er
   intro K Q hK
   simp only [az,updAll,Act.put,aU,aV,aW,aX] at hK ⊢
   refine wp_store_mid 31 (.tmp 8) (.tmp 28) rfl r 0 (bV y).toArray rfl rfl (by have h9:=lN hr2;simpa [dD] using h9) (by rw [gG];simp [dD]) (lI y) ?_
   exact hK _ h.put
  all_goals
   intro bsE vsE W hlb hlv hnd h
   obtain⟨b0,b1,rfl⟩:=cd hlb
   obtain⟨v0,v1,rfl⟩:=cd hlv
   replace h:mL w0 y b0 b1 (v0) W:=h
   clear hnd
   have HST:=aa h
   have hbw:=ai HB0.out h.bel;have c0:=ag HC.out.1 hbw;have c1:=ag HC.out.2.1 hbw;have c2:=ag HC.out.2.2.1 hbw;have c3:=ag HC.out.2.2.2 hbw;have l1:=ar HLT.out.1 hbw.size;have l2:=ar HLT.out.2 hbw.size;have HXW:=an HX.out h.bel;obtain⟨x0,x1,x2,x3,x4,x5⟩:=bG HXW;have xl:=ak HXW;clear HXW hbw
   intro K Q hK
   simp only [az,updAll,Act.put,aU,aV,aW,aX] at hK ⊢
   go_wp2_with (fail)
   all_goals(first | exact hK _ h | exact h)
 case done=>
  intro vsE W hlv h
  obtain⟨v0,v1,rfl⟩:=cd hlv
  replace h:mL w0 y true true (v0) W:=h
  have HST:=aa h
  have HF:=aa h
  clear h HST
  simp only [az,updAll,Act.put,aU,aV,aW,aX]
  obtain⟨r,er,hr1,hr2⟩:=HF.out.bx rfl
  subst er
  have hr3:W.heap[r]? =some (.cells (bV y).toArray 31 (0,0)):=hr2
  have HRW:=aa hr1
  have HE1:Hid (ej B R g (.slice (some ⟨bb,ob,none⟩) g.bks.length cb) (.slice (some ⟨PB,0,none⟩) g.qs.length cp) y r w.heap.size (k,t,ea,eb,nm,ot) (fun k=> k=R∨k=PB∨q.ve.ownBlock=some k) w W):=⟨H.out.step (ai HB0.out HF.out.bel),hr3,an HX.out HF.out.bel,bP.of_below (ai HB0.out HF.out.bel)⟩
  have HN8:=aa hn8
  have HU:=aa hu
  have HQ:=aa hq
  have HQM:=aa (aJ hq)
  have HRN:Hid (∀ k,q.ve.ownBlock=some k→k≠r):=fun k hk e=> by have h1:=(World.ownsRow.lt (H.out.es q HQM.out) k hk).2;have h2:=HRW.out;have h3:=HB0.out.size;omega
  clear hr1 hr2 hr3 HF HC HLT
  go_upto_region 2 with fail
  refine bo 11 11 60 [(5,34),(10,61)] [(none,[]),(none,[]),(none,[]),(none,[]),(none,[]),(some 0,[]),(none,[0]),(none,[]),(none,[]),(none,[]),(some 1,[0])] [(29,(.pointer (some ⟨R,0,none⟩))),(30,(.int .i64 (n:Int))),(31,(.pointer (some ⟨R,0,none⟩))),(32,(.pointer (some ⟨R,2,none⟩))),(33,(.pointer (some ⟨R,2+n,none⟩))),(35,(.int .i64 ((u:Int)+1))),(36,(.pointer (some ⟨R,0,none⟩))),(37,(.pointer (some ⟨R,2,none⟩))),(38,(.pointer (some ⟨R,2+n,none⟩)))] (fun bsE vsE W=> kq (fun q9 W=> ej B R (bif q9 then { g with used:=g.used.set n (u+1) } else g) (.slice (some ⟨bb,ob,none⟩) g.bks.length cb) (.slice (some ⟨PB,0,none⟩) g.qs.length cp) y r w.heap.size (k,t,ea,eb,nm,ot) (fun k=> k=R∨k=PB∨q.ve.ownBlock=some k) w W) (.int .i64 (u:Int)) (bsE.getD 0 false) (bsE.getD 1 false) ((vsE.getD 0 undef)) W) (by kernel_rfl) (by kernel_rfl) rfl rfl (by kernel_rfl) (by rfl) ?h0 ?each ?done
  case h0=>
   intro vsE hlv
   obtain⟨v0,v1,rfl⟩:=cd hlv
   exact⟨HE1.out.step (Below.refl _ _).drew,(fun e=> by cases e),(fun _=> rfl)⟩
  case each=>
   simp only [dp]
   refine⟨⟨29,(.pointer (some ⟨R,0,none⟩)),rfl,by kernel_rfl,?_⟩,⟨30,(.int .i64 (n:Int)),rfl,by kernel_rfl,?_⟩,⟨31,(.pointer (some ⟨R,0,none⟩)),rfl,by kernel_rfl,?_⟩,⟨32,(.pointer (some ⟨R,2,none⟩)),rfl,by kernel_rfl,?_⟩,⟨33,(.pointer (some ⟨R,2+n,none⟩)),rfl,by kernel_rfl,?_⟩,ax ⟨34,rfl,?q3_5⟩,⟨35,(.int .i64 ((u:Int)+1)),rfl,by kernel_rfl,?q3_6⟩,⟨36,(.pointer (some ⟨R,0,none⟩)),rfl,by kernel_rfl,?_⟩,⟨37,(.pointer (some ⟨R,2,none⟩)),rfl,by kernel_rfl,?_⟩,⟨38,(.pointer (some ⟨R,2+n,none⟩)),rfl,by kernel_rfl,?_⟩,ay ⟨rfl,?q3_10⟩,trivial⟩
   case q3_5=>
    intro bsE vsE W hlb hlv hnd hbk h
    obtain⟨b0,b1,rfl⟩:=cd hlb
    obtain⟨v0,v1,rfl⟩:=cd hlv
    obtain rfl:b0=false:=hbk
    replace h:kq (fun q9 W=> ej B R (bif q9 then { g with used:=g.used.set n (u+1) } else g) (.slice (some ⟨bb,ob,none⟩) g.bks.length cb) (.slice (some ⟨PB,0,none⟩) g.qs.length cp) y r w.heap.size (k,t,ea,eb,nm,ot) (fun k=> k=R∨k=PB∨q.ve.ownBlock=some k) w W) (.int .i64 (u:Int)) false b1 (v0) W:=h
    clear hnd
    have HST:=aa h
    obtain rfl:=h.n rfl;have hs:ej B R g (.slice (some ⟨bb,ob,none⟩) g.bks.length cb) (.slice (some ⟨PB,0,none⟩) g.qs.length cp) y r w.heap.size (k,t,ea,eb,nm,ot) (fun k=> k=R∨k=PB∨q.ve.ownBlock=some k) w W:=h.s;have c:=hs.ra.cells.2.2.2.2 n HN8.out;rw [HU.out] at c;have lB:=hs.ra.cells.2.2.2.1
    intro K Q hK
    simp only [az,updAll,Act.put,aU,aV,aW,aX] at hK ⊢
    go_wp2_with fail
    all_goals(have hN:kq (fun q9 W=> ej B R (bif q9 then { g with used:=g.used.set n (u+1) } else g) (.slice (some ⟨bb,ob,none⟩) g.bks.length cb) (.slice (some ⟨PB,0,none⟩) g.qs.length cp) y r w.heap.size (k,t,ea,eb,nm,ot) (fun k=> k=R∨k=PB∨q.ve.ownBlock=some k) w W) (.int .i64 (u:Int)) true false ((.int .i64 (u:Int))) W:=⟨h.s,fun _=> rfl,(fun e=> by cases e)⟩)
    all_goals(first | exact hK _ _ hN | exact hN)
   case q3_6=>
    intro bsE vsE W hlb hlv hnd h
    obtain⟨b0,b1,rfl⟩:=cd hlb
    obtain⟨v0,v1,rfl⟩:=cd hlv
    obtain rfl:b0=true:=hnd 0 (by simp)
    replace h:kq (fun q9 W=> ej B R (bif q9 then { g with used:=g.used.set n (u+1) } else g) (.slice (some ⟨bb,ob,none⟩) g.bks.length cb) (.slice (some ⟨PB,0,none⟩) g.qs.length cp) y r w.heap.size (k,t,ea,eb,nm,ot) (fun k=> k=R∨k=PB∨q.ve.ownBlock=some k) w W) (.int .i64 (u:Int)) true b1 (v0) W:=h
    clear hnd
    have HST:=aa h
    obtain rfl:=h.v rfl
    intro K Q hK
    simp only [az,updAll,Act.put,aU,aV,aW,aX] at hK ⊢
    go_wp2_with (fail)
    all_goals(first | exact hK _ h | exact h)
   case q3_10=>
    intro bsE vsE W hlb hlv hnd hbk h
    obtain⟨b0,b1,rfl⟩:=cd hlb
    obtain⟨v0,v1,rfl⟩:=cd hlv
    obtain rfl:b0=true:=hnd 0 (by simp)
    obtain rfl:b1=false:=hbk
    replace h:kq (fun q9 W=> ej B R (bif q9 then { g with used:=g.used.set n (u+1) } else g) (.slice (some ⟨bb,ob,none⟩) g.bks.length cb) (.slice (some ⟨PB,0,none⟩) g.qs.length cp) y r w.heap.size (k,t,ea,eb,nm,ot) (fun k=> k=R∨k=PB∨q.ve.ownBlock=some k) w W) (.int .i64 (u:Int)) true false (v0) W:=h
    clear hnd
    have HST:=aa h
    obtain rfl:=h.v rfl;have hs:ej B R g (.slice (some ⟨bb,ob,none⟩) g.bks.length cb) (.slice (some ⟨PB,0,none⟩) g.qs.length cp) y r w.heap.size (k,t,ea,eb,nm,ot) (fun k=> k=R∨k=PB∨q.ve.ownBlock=some k) w W:=h.s;have c:=hs.ra.cells.2.2.2.2 n HN8.out;rw [HU.out] at c;have lB:=hs.ra.cells.2.2.2.1;have f:=aR (o:=2+n) hs.ra.reg;have hN0:=hs.used (k:=n) (u:=u+1) HN8.out (ax rfl);rw [show((u+1:Nat):Int)=(u:Int)+1 from by push_cast;rfl] at hN0
    intro K Q hK
    simp only [az,updAll,Act.put,aU,aV,aW,aX] at hK ⊢
    go_wp2_with fail
    all_goals(have hN:kq (fun q9 W=> ej B R (bif q9 then { g with used:=g.used.set n (u+1) } else g) (.slice (some ⟨bb,ob,none⟩) g.bks.length cb) (.slice (some ⟨PB,0,none⟩) g.qs.length cp) y r w.heap.size (k,t,ea,eb,nm,ot) (fun k=> k=R∨k=PB∨q.ve.ownBlock=some k) w W) (.int .i64 (u:Int)) true true ((.int .i64 (u:Int))) (W.setCell ⟨R,2+n,none⟩ (.int .i64 ((u:Int)+1))):=⟨hN0,fun _=> rfl,(fun e=> by cases e)⟩)
    all_goals(first | exact hK _ hN | exact hN)
   all_goals
    intro bsE vsE W hlb hlv hnd h
    obtain⟨b0,b1,rfl⟩:=cd hlb
    obtain⟨v0,v1,rfl⟩:=cd hlv
    replace h:kq (fun q9 W=> ej B R (bif q9 then { g with used:=g.used.set n (u+1) } else g) (.slice (some ⟨bb,ob,none⟩) g.bks.length cb) (.slice (some ⟨PB,0,none⟩) g.qs.length cp) y r w.heap.size (k,t,ea,eb,nm,ot) (fun k=> k=R∨k=PB∨q.ve.ownBlock=some k) w W) (.int .i64 (u:Int)) b0 b1 (v0) W:=h
    clear hnd
    have HST:=aa h
    skip
    intro K Q hK
    simp only [az,updAll,Act.put,aU,aV,aW,aX] at hK ⊢
    go_wp2_with (fail)
    all_goals(first | exact hK _ h | exact h)
  case done=>
   intro vsE W hlv h
   obtain⟨v0,v1,rfl⟩:=cd hlv
   replace h:kq (fun q9 W=> ej B R (bif q9 then { g with used:=g.used.set n (u+1) } else g) (.slice (some ⟨bb,ob,none⟩) g.bks.length cb) (.slice (some ⟨PB,0,none⟩) g.qs.length cp) y r w.heap.size (k,t,ea,eb,nm,ot) (fun k=> k=R∨k=PB∨q.ve.ownBlock=some k) w W) (.int .i64 (u:Int)) true true (v0) W:=h
   have HST:=aa h
   have HE2:Hid (ej B R { g with used:=g.used.set n (u+1) } (.slice (some ⟨bb,ob,none⟩) g.bks.length cb) (.slice (some ⟨PB,0,none⟩) g.qs.length cp) y r w.heap.size (k,t,ea,eb,nm,ot) (fun k=> k=R∨k=PB∨q.ve.ownBlock=some k) w W):=h.s
   clear h HST HE1
   simp only [az,updAll,Act.put,aU,aV,aW,aX]
   have HBB:Hid (B≤W.drew.heap.size):=HE2.out.ra.base (W:=W)
   go_upto_region 3 with fail
   refine bo 11 11 60 [(4,43),(5,44),(6,45),(7,46),(10,64)] [(none,[]),(none,[]),(none,[]),(none,[]),(some 0,[]),(some 1,[]),(some 2,[1]),(some 3,[0,2]),(none,[]),(none,[]),(some 4,[3])] [(39,(.pointer (some ⟨PB,i*20,none⟩))),(40,(.pointer (some ⟨PB,i*20,none⟩))),(41,(.pointer (some ⟨PB,i*20,none⟩))),(42,(.pointer (some ⟨PB,i*20+19,none⟩))),(47,(.pointer (some ⟨PB,i*20,none⟩))),(48,(.pointer (some ⟨PB,i*20+19,none⟩)))] (fun bsE vsE W=> lh (fun W=> ej B R { g with used:=g.used.set n (u+1) } (.slice (some ⟨bb,ob,none⟩) g.bks.length cb) (.slice (some ⟨PB,0,none⟩) g.qs.length cp) y r w.heap.size (k,t,ea,eb,nm,ot) (fun k=> k=R∨k=PB∨q.ve.ownBlock=some k) w W) (fun W=> ∃ v',ej B R { g with used:=g.used.set n (u+1),qs:=g.qs.set i { q with es:=q.es++[y],ve:=v' } } (.slice (some ⟨bb,ob,none⟩) g.bks.length cb) (.slice (some ⟨PB,0,none⟩) g.qs.length cp) y r w.heap.size (k,t,ea,eb,nm,ot) (fun k=> k=R∨k=PB∨q.ve.ownBlock=some k) w W∧(v'.ownBlock=q.ve.ownBlock∨∃ k9,w.heap.size≤k9∧v'.ownBlock=some k9)) B r y q.ve q.es.length (bK q.es) (bsE.getD 0 false) (bsE.getD 1 false) (bsE.getD 2 false) (bsE.getD 3 false) (bsE.getD 4 false) ((vsE.getD 0 undef)) ((vsE.getD 1 undef)) ((vsE.getD 2 undef)) ((vsE.getD 3 undef)) W) (by kernel_rfl) (by kernel_rfl) rfl rfl (by kernel_rfl) (by rfl) ?h0 ?each ?done
   case h0=>
    intro vsE hlv
    obtain⟨v0,v1,v2,v3,v4,rfl⟩:=gk hlv
    exact⟨fun _=> HE2.out.step (Below.refl _ _).drew,(fun e=> by cases e),(fun e=> by cases e),(fun e=> by cases e),(fun e=> by cases e),(fun _=> rfl),(fun _=> rfl),(fun _=> rfl),(fun e=> by cases e),(fun _=> rfl),(fun _=> (HE2.out.step (Below.refl _ _).drew).yb),HBB.out⟩
   case each=>
    simp only [dp]
    refine⟨⟨39,(.pointer (some ⟨PB,i*20,none⟩)),rfl,by kernel_rfl,?_⟩,⟨40,(.pointer (some ⟨PB,i*20,none⟩)),rfl,by kernel_rfl,?_⟩,⟨41,(.pointer (some ⟨PB,i*20,none⟩)),rfl,by kernel_rfl,?_⟩,⟨42,(.pointer (some ⟨PB,i*20+19,none⟩)),rfl,by kernel_rfl,?_⟩,ax ⟨43,rfl,?q2_4⟩,ax ⟨44,rfl,?q2_5⟩,ax ⟨45,rfl,?q2_6⟩,ax ⟨46,rfl,?q2_7⟩,⟨47,(.pointer (some ⟨PB,i*20,none⟩)),rfl,by kernel_rfl,?_⟩,⟨48,(.pointer (some ⟨PB,i*20+19,none⟩)),rfl,by kernel_rfl,?_⟩,ay ⟨rfl,?q2_10⟩,trivial⟩
    case q2_4=>
     intro bsE vsE W hlb hlv hnd hbk h
     obtain⟨b0,b1,b2,b3,b4,rfl⟩:=gk hlb
     obtain⟨v0,v1,v2,v3,v4,rfl⟩:=gk hlv
     obtain rfl:b0=false:=hbk
     replace h:lh (fun W=> ej B R { g with used:=g.used.set n (u+1) } (.slice (some ⟨bb,ob,none⟩) g.bks.length cb) (.slice (some ⟨PB,0,none⟩) g.qs.length cp) y r w.heap.size (k,t,ea,eb,nm,ot) (fun k=> k=R∨k=PB∨q.ve.ownBlock=some k) w W) (fun W=> ∃ v',ej B R { g with used:=g.used.set n (u+1),qs:=g.qs.set i { q with es:=q.es++[y],ve:=v' } } (.slice (some ⟨bb,ob,none⟩) g.bks.length cb) (.slice (some ⟨PB,0,none⟩) g.qs.length cp) y r w.heap.size (k,t,ea,eb,nm,ot) (fun k=> k=R∨k=PB∨q.ve.ownBlock=some k) w W∧(v'.ownBlock=q.ve.ownBlock∨∃ k9,w.heap.size≤k9∧v'.ownBlock=some k9)) B r y q.ve q.es.length (bK q.es) false b1 b2 b3 b4 (v0) (v1) (v2) (v3) W:=h
     clear hnd
     have HST:=aa h
     obtain rfl:=h.n0 rfl;obtain rfl:=h.n2 rfl;have hs:ej B R { g with used:=g.used.set n (u+1) } (.slice (some ⟨bb,ob,none⟩) g.bks.length cb) (.slice (some ⟨PB,0,none⟩) g.qs.length cp) y r w.heap.size (k,t,ea,eb,nm,ot) (fun k=> k=R∨k=PB∨q.ve.ownBlock=some k) w W:=h.a rfl;have hlf:=hs.ra.life rfl HQ.out;have c:=hlf.2.2;have lB:=hlf.1.lt;clear hlf hs
     intro K Q hK
     simp only [az,updAll,Act.put,aU,aV,aW,aX] at hK ⊢
     go_wp2_with fail
     all_goals(have hm:=h.mk0)
     all_goals(first | exact hK _ _ hm | exact hm)
    case q2_5=>
     intro bsE vsE W hlb hlv hnd hbk h
     obtain⟨b0,b1,b2,b3,b4,rfl⟩:=gk hlb
     obtain⟨v0,v1,v2,v3,v4,rfl⟩:=gk hlv
     obtain rfl:b1=false:=hbk
     replace h:lh (fun W=> ej B R { g with used:=g.used.set n (u+1) } (.slice (some ⟨bb,ob,none⟩) g.bks.length cb) (.slice (some ⟨PB,0,none⟩) g.qs.length cp) y r w.heap.size (k,t,ea,eb,nm,ot) (fun k=> k=R∨k=PB∨q.ve.ownBlock=some k) w W) (fun W=> ∃ v',ej B R { g with used:=g.used.set n (u+1),qs:=g.qs.set i { q with es:=q.es++[y],ve:=v' } } (.slice (some ⟨bb,ob,none⟩) g.bks.length cb) (.slice (some ⟨PB,0,none⟩) g.qs.length cp) y r w.heap.size (k,t,ea,eb,nm,ot) (fun k=> k=R∨k=PB∨q.ve.ownBlock=some k) w W∧(v'.ownBlock=q.ve.ownBlock∨∃ k9,w.heap.size≤k9∧v'.ownBlock=some k9)) B r y q.ve q.es.length (bK q.es) b0 false b2 b3 b4 (v0) (v1) (v2) (v3) W:=h
     clear hnd
     have HST:=aa h
     obtain rfl:=h.nY rfl;obtain rfl:=h.n1 rfl;obtain rfl:=h.n2 rfl
     intro K Q hK
     simp only [az,updAll,Act.put,aU,aV,aW,aX] at hK ⊢
     refine wp_load_mid 31 (.tmp 8) rfl r 0 rfl (bV y) _ (fun j v hv=> ah (h.yb rfl) (by rw [Nat.zero_add];simpa using hv)) Tryz.underlying31 rfl (by rw [gG,dD]) ?_
     exact hK _ _ h.mkY
    case q2_6=>
     intro bsE vsE W hlb hlv hnd hbk h
     obtain⟨b0,b1,b2,b3,b4,rfl⟩:=gk hlb
     obtain⟨v0,v1,v2,v3,v4,rfl⟩:=gk hlv
     obtain rfl:b1=true:=hnd 1 (by simp)
     obtain rfl:b2=false:=hbk
     replace h:lh (fun W=> ej B R { g with used:=g.used.set n (u+1) } (.slice (some ⟨bb,ob,none⟩) g.bks.length cb) (.slice (some ⟨PB,0,none⟩) g.qs.length cp) y r w.heap.size (k,t,ea,eb,nm,ot) (fun k=> k=R∨k=PB∨q.ve.ownBlock=some k) w W) (fun W=> ∃ v',ej B R { g with used:=g.used.set n (u+1),qs:=g.qs.set i { q with es:=q.es++[y],ve:=v' } } (.slice (some ⟨bb,ob,none⟩) g.bks.length cb) (.slice (some ⟨PB,0,none⟩) g.qs.length cp) y r w.heap.size (k,t,ea,eb,nm,ot) (fun k=> k=R∨k=PB∨q.ve.ownBlock=some k) w W∧(v'.ownBlock=q.ve.ownBlock∨∃ k9,w.heap.size≤k9∧v'.ownBlock=some k9)) B r y q.ve q.es.length (bK q.es) b0 true false b3 b4 (v0) (v1) (v2) (v3) W:=h
     clear hnd
     have HST:=aa h
     obtain rfl:=h.ry rfl;obtain rfl:=h.n1 rfl;obtain rfl:=h.n2 rfl;have hm:=h.mk1 (fun W w2 hW hb=> hW.step hb)
     intro K Q hK
     simp only [az,updAll,Act.put,aU,aV,aW,aX] at hK ⊢
     clear HST h
     revert hm
     obtain⟨⟨yk,yt,ya,yb,yn,yo⟩,yy,yp,yh,yg⟩:=y
     unfold dU bV
     intro hm
     go_wp2_with fail
     all_goals(first | exact hK _ _ hm | exact hm)
    case q2_7=>
     intro bsE vsE W hlb hlv hnd hbk h
     obtain⟨b0,b1,b2,b3,b4,rfl⟩:=gk hlb
     obtain⟨v0,v1,v2,v3,v4,rfl⟩:=gk hlv
     obtain rfl:b0=true:=hnd 0 (by simp)
     obtain rfl:b2=true:=hnd 2 (by simp)
     obtain rfl:b3=false:=hbk
     replace h:lh (fun W=> ej B R { g with used:=g.used.set n (u+1) } (.slice (some ⟨bb,ob,none⟩) g.bks.length cb) (.slice (some ⟨PB,0,none⟩) g.qs.length cp) y r w.heap.size (k,t,ea,eb,nm,ot) (fun k=> k=R∨k=PB∨q.ve.ownBlock=some k) w W) (fun W=> ∃ v',ej B R { g with used:=g.used.set n (u+1),qs:=g.qs.set i { q with es:=q.es++[y],ve:=v' } } (.slice (some ⟨bb,ob,none⟩) g.bks.length cb) (.slice (some ⟨PB,0,none⟩) g.qs.length cp) y r w.heap.size (k,t,ea,eb,nm,ot) (fun k=> k=R∨k=PB∨q.ve.ownBlock=some k) w W∧(v'.ownBlock=q.ve.ownBlock∨∃ k9,w.heap.size≤k9∧v'.ownBlock=some k9)) B r y q.ve q.es.length (bK q.es) true b1 true false b4 (v0) (v1) (v2) (v3) W:=h
     clear hnd
     have HST:=aa h
     obtain rfl:=h.n2 rfl
     intro K Q hK
     simp only [az,updAll,Act.put,aU,aV,aW,aX] at hK ⊢
     exact h.app (fun W hW=> hW.ra.es q HQM.out) HES.out (.tmp 43) (.tmp 45) rfl rfl rfl hK
    case q2_10=>
     intro bsE vsE W hlb hlv hnd hbk h
     obtain⟨b0,b1,b2,b3,b4,rfl⟩:=gk hlb
     obtain⟨v0,v1,v2,v3,v4,rfl⟩:=gk hlv
     obtain rfl:b3=true:=hnd 3 (by simp)
     obtain rfl:b4=false:=hbk
     replace h:lh (fun W=> ej B R { g with used:=g.used.set n (u+1) } (.slice (some ⟨bb,ob,none⟩) g.bks.length cb) (.slice (some ⟨PB,0,none⟩) g.qs.length cp) y r w.heap.size (k,t,ea,eb,nm,ot) (fun k=> k=R∨k=PB∨q.ve.ownBlock=some k) w W) (fun W=> ∃ v',ej B R { g with used:=g.used.set n (u+1),qs:=g.qs.set i { q with es:=q.es++[y],ve:=v' } } (.slice (some ⟨bb,ob,none⟩) g.bks.length cb) (.slice (some ⟨PB,0,none⟩) g.qs.length cp) y r w.heap.size (k,t,ea,eb,nm,ot) (fun k=> k=R∨k=PB∨q.ve.ownBlock=some k) w W∧(v'.ownBlock=q.ve.ownBlock∨∃ k9,w.heap.size≤k9∧v'.ownBlock=some k9)) B r y q.ve q.es.length (bK q.es) b0 b1 b2 true false (v0) (v1) (v2) (v3) W:=h
     clear hnd
     have HST:=aa h
     obtain⟨Wb,p1,p2,p3,p4⟩:=h.m rfl rfl;obtain⟨a9,c9,e9,-⟩:=Rw.Own.get (r:=⟨31,10,_,q.es.length+1,_⟩) p4;dsimp only at e9;subst e9;obtain⟨PB2,cp2,cur,ea,-,hPB,hcl⟩:=p1.ra.packs (by rintro e;have h9:=HQ.out;rw [show g.qs=[] from e] at h9;cases h9);cases ea;have hPB5:=cV hPB p2 (p1.ra.es q HQM.out) (by decide);have c:=ah hPB5 (hcl i q HQ.out 19 _ rfl);have f:=aR (o:=i*20+19) hPB5;have lB:=ak hPB5;have hN0:lh (fun W=> ej B R { g with used:=g.used.set n (u+1) } (.slice (some ⟨bb,ob,none⟩) g.bks.length cb) (.slice (some ⟨PB,0,none⟩) g.qs.length cp) y r w.heap.size (k,t,ea,eb,nm,ot) (fun k=> k=R∨k=PB∨q.ve.ownBlock=some k) w W) (fun W=> ∃ v',ej B R { g with used:=g.used.set n (u+1),qs:=g.qs.set i { q with es:=q.es++[y],ve:=v' } } (.slice (some ⟨bb,ob,none⟩) g.bks.length cb) (.slice (some ⟨PB,0,none⟩) g.qs.length cp) y r w.heap.size (k,t,ea,eb,nm,ot) (fun k=> k=R∨k=PB∨q.ve.ownBlock=some k) w W∧(v'.ownBlock=q.ve.ownBlock∨∃ k9,w.heap.size≤k9∧v'.ownBlock=some k9)) B r y q.ve q.es.length (bK q.es) b0 b1 b2 true true (v0) (v1) (v2) ((.slice a9 (q.es.length+1) c9)) (W.setCell ⟨PB,i*20+19,none⟩ (.slice a9 (q.es.length+1) c9)):=⟨(fun e=> by cases e),(fun _ e=> by cases e),(fun _=> ⟨_,p1.ents rfl HQ.out p2 p4 p3 HRN.out (ay (ax rfl)) (fun k hk _=> ay (ay hk)),p3.imp id (fun e9=> ⟨_,p1.kp.size,e9⟩)⟩),h.r0,(fun _ e=> by cases e),h.n0,h.n1,(fun e=> by cases e),h.ry,h.nY,(fun e=> by cases e),by simpa using h.hb⟩;clear hPB hcl hPB5 p1 p2 p3 p4
     intro K Q hK
     simp only [az,updAll,Act.put,aU,aV,aW,aX] at hK ⊢
     go_wp2_with fail
     all_goals(first | exact hK _ hN0 | exact hN0)
    all_goals
     intro bsE vsE W hlb hlv hnd h
     obtain⟨b0,b1,b2,b3,b4,rfl⟩:=gk hlb
     obtain⟨v0,v1,v2,v3,v4,rfl⟩:=gk hlv
     replace h:lh (fun W=> ej B R { g with used:=g.used.set n (u+1) } (.slice (some ⟨bb,ob,none⟩) g.bks.length cb) (.slice (some ⟨PB,0,none⟩) g.qs.length cp) y r w.heap.size (k,t,ea,eb,nm,ot) (fun k=> k=R∨k=PB∨q.ve.ownBlock=some k) w W) (fun W=> ∃ v',ej B R { g with used:=g.used.set n (u+1),qs:=g.qs.set i { q with es:=q.es++[y],ve:=v' } } (.slice (some ⟨bb,ob,none⟩) g.bks.length cb) (.slice (some ⟨PB,0,none⟩) g.qs.length cp) y r w.heap.size (k,t,ea,eb,nm,ot) (fun k=> k=R∨k=PB∨q.ve.ownBlock=some k) w W∧(v'.ownBlock=q.ve.ownBlock∨∃ k9,w.heap.size≤k9∧v'.ownBlock=some k9)) B r y q.ve q.es.length (bK q.es) b0 b1 b2 b3 b4 (v0) (v1) (v2) (v3) W:=h
     clear hnd
     have HST:=aa h
     skip
     intro K Q hK
     simp only [az,updAll,Act.put,aU,aV,aW,aX] at hK ⊢
     go_wp2_with (fail)
     all_goals(first | exact hK _ h | exact h)
   case done=>
    intro vsE W hlv h
    obtain⟨v0,v1,v2,v3,v4,rfl⟩:=gk hlv
    replace h:lh (fun W=> ej B R { g with used:=g.used.set n (u+1) } (.slice (some ⟨bb,ob,none⟩) g.bks.length cb) (.slice (some ⟨PB,0,none⟩) g.qs.length cp) y r w.heap.size (k,t,ea,eb,nm,ot) (fun k=> k=R∨k=PB∨q.ve.ownBlock=some k) w W) (fun W=> ∃ v',ej B R { g with used:=g.used.set n (u+1),qs:=g.qs.set i { q with es:=q.es++[y],ve:=v' } } (.slice (some ⟨bb,ob,none⟩) g.bks.length cb) (.slice (some ⟨PB,0,none⟩) g.qs.length cp) y r w.heap.size (k,t,ea,eb,nm,ot) (fun k=> k=R∨k=PB∨q.ve.ownBlock=some k) w W∧(v'.ownBlock=q.ve.ownBlock∨∃ k9,w.heap.size≤k9∧v'.ownBlock=some k9)) B r y q.ve q.es.length (bK q.es) true true true true true (v0) (v1) (v2) (v3) W:=h
    have HST:=aa h
    have HE3:Hid (∃ v',ej B R { g with used:=g.used.set n (u+1),qs:=g.qs.set i { q with es:=q.es++[y],ve:=v' } } (.slice (some ⟨bb,ob,none⟩) g.bks.length cb) (.slice (some ⟨PB,0,none⟩) g.qs.length cp) y r w.heap.size (k,t,ea,eb,nm,ot) (fun k=> k=R∨k=PB∨q.ve.ownBlock=some k) w W∧(v'.ownBlock=q.ve.ownBlock∨∃ k9,w.heap.size≤k9∧v'.ownBlock=some k9)):=h.z rfl
    clear h HST HE2
    simp only [az,updAll,Act.put,aU,aV,aW,aX]
    obtain⟨v',E3,HV3⟩:=HE3.out
    have HVF:=aa HV3
    clear HV3
    have hi4:=(aB HQ.out).1
    have HH4:Hid ((g.qs.set i { q with es:=q.es++[y],ve:=v' })[i]? =some { q with es:=q.es++[y],ve:=v' }):=aa (List.getElem?_set_self hi4)
    have hv4:(Value.slice (some ⟨PB,0,none⟩) g.qs.length cp)=.slice (some ⟨PB,0,none⟩) (g.qs.set i { q with es:=q.es++[y],ve:=v' }).length cp:=by rw [List.length_set]
    have c8:W.cell? ⟨r,8,none⟩=some (.int .u64 (y.2.2.2.1:Int)):=ah E3.yb rfl
    have f8:W.frozen? ⟨PB,i*20+18,none⟩=false:=(E3.ra.life hv4 HH4.out).1.free 18
    have c18:W.cell? ⟨PB,i*20+18,none⟩=some (.int .u64 (q.hd:Int)):=(E3.ra.life hv4 HH4.out).2.1
    have E4:Hid (ej B R { g with used:=g.used.set n (u+1),qs:=g.qs.set i { q with es:=q.es++[y],ve:=v',hd:=y.2.2.2.1 } } (.slice (some ⟨bb,ob,none⟩) g.bks.length cb) (.slice (some ⟨PB,0,none⟩) g.qs.length cp) y r w.heap.size (k,t,ea,eb,nm,ot) (fun k=> k=R∨k=PB∨q.ve.ownBlock=some k) w (W.setCell ⟨PB,i*20+18,none⟩ (.int .u64 (y.2.2.2.1:Int)))):=by
     have h9:ej B R { g with used:=g.used.set n (u+1),qs:=(g.qs.set i { q with es:=q.es++[y],ve:=v' }).set i { q with es:=q.es++[y],ve:=v',hd:=y.2.2.2.1 } } (.slice (some ⟨bb,ob,none⟩) g.bks.length cb) (.slice (some ⟨PB,0,none⟩) g.qs.length cp) y r w.heap.size (k,t,ea,eb,nm,ot) (fun k=> k=R∨k=PB∨q.ve.ownBlock=some k) w (W.setCell ⟨PB,i*20+18,none⟩ (.int .u64 (y.2.2.2.1:Int))):=ej.hd E3 hv4 HH4.out (ay (ax rfl)) y.2.2.2.1
     rw [List.set_set] at h9
     exact h9
    have HH5:Hid ((g.qs.set i { q with es:=q.es++[y],ve:=v',hd:=y.2.2.2.1 })[i]? =some { q with es:=q.es++[y],ve:=v',hd:=y.2.2.2.1 }):=aa (List.getElem?_set_self hi4)
    have hv5:(Value.slice (some ⟨PB,0,none⟩) g.qs.length cp)=.slice (some ⟨PB,0,none⟩) (g.qs.set i { q with es:=q.es++[y],ve:=v',hd:=y.2.2.2.1 }).length cp:=by rw [List.length_set]
    have HV5:=aa hv5
    clear HE3 E3 hv4 HH4 hv5 hi4
    go_upto_region 5 with fail
    refine bo 5 5 60 [(4,59)] [(none,[]),(none,[]),(none,[]),(none,[]),(some 0,[])] [(55,(.pointer (some ⟨PB,i*20,none⟩))),(56,(.pointer (some ⟨PB,i*20,none⟩))),(57,(.pointer (some ⟨PB,i*20,none⟩))),(58,(.agg #[.int .i64 k,.int .i64 t,.int .i64 ea,.int .i64 eb,.string nm,.string ot]))] (fun bsE vsE W=> uQ (fun W=> W.heap[w.heap.size]? =some (.cells (gg (k,t,ea,eb,nm,ot)).toArray 29 (0,0))) (fun W=> ej B R { g with used:=g.used.set n (u+1),qs:=g.qs.set i { q with es:=q.es++[y],ve:=v',hd:=y.2.2.2.1 } } (.slice (some ⟨bb,ob,none⟩) g.bks.length cb) (.slice (some ⟨PB,0,none⟩) g.qs.length cp) y r w.heap.size (k,t,ea,eb,nm,ot) (fun k=> k=R∨k=PB∨q.ve.ownBlock=some k) w W) (fun W=> ∃ vm' vo',ej B R { g with used:=g.used.set n (u+1),qs:=g.qs.set i { q with es:=q.es++[y],ve:=v',hd:=y.2.2.2.1,life:=q.life.add q.nm (k,t,ea,eb,nm,ot),vm:=vm',vo:=vo' } } (.slice (some ⟨bb,ob,none⟩) g.bks.length cb) (.slice (some ⟨PB,0,none⟩) g.qs.length cp) y r w.heap.size (k,t,ea,eb,nm,ot) (fun k=> k=R∨k=PB∨q.ve.ownBlock=some k) w W∧X vm' vo') (bsE.getD 0 false) W) (by kernel_rfl) (by kernel_rfl) rfl rfl (by kernel_rfl) (by rfl) ?h0 ?each ?done
    case h0=>
     intro vsE hlv
     obtain⟨v0,rfl⟩:=jk hlv
     exact⟨(E4.out.step (Below.refl _ _).drew).eb,(fun _=> E4.out.step (Below.refl _ _).drew),(fun e=> by cases e)⟩
    case each=>
     simp only [dp]
     refine⟨⟨55,(.pointer (some ⟨PB,i*20,none⟩)),rfl,by kernel_rfl,?_⟩,⟨56,(.pointer (some ⟨PB,i*20,none⟩)),rfl,by kernel_rfl,?_⟩,⟨57,(.pointer (some ⟨PB,i*20,none⟩)),rfl,by kernel_rfl,?_⟩,⟨58,(.agg #[.int .i64 k,.int .i64 t,.int .i64 ea,.int .i64 eb,.string nm,.string ot]),rfl,by kernel_rfl,?_⟩,ax ⟨59,rfl,?q1_4⟩,trivial⟩
     case q1_4=>
      intro bsE vsE W hlb hlv hnd hbk h
      obtain⟨b0,rfl⟩:=jk hlb
      obtain⟨v0,rfl⟩:=jk hlv
      obtain rfl:b0=false:=hbk
      replace h:uQ (fun W=> W.heap[w.heap.size]? =some (.cells (gg (k,t,ea,eb,nm,ot)).toArray 29 (0,0))) (fun W=> ej B R { g with used:=g.used.set n (u+1),qs:=g.qs.set i { q with es:=q.es++[y],ve:=v',hd:=y.2.2.2.1 } } (.slice (some ⟨bb,ob,none⟩) g.bks.length cb) (.slice (some ⟨PB,0,none⟩) g.qs.length cp) y r w.heap.size (k,t,ea,eb,nm,ot) (fun k=> k=R∨k=PB∨q.ve.ownBlock=some k) w W) (fun W=> ∃ vm' vo',ej B R { g with used:=g.used.set n (u+1),qs:=g.qs.set i { q with es:=q.es++[y],ve:=v',hd:=y.2.2.2.1,life:=q.life.add q.nm (k,t,ea,eb,nm,ot),vm:=vm',vo:=vo' } } (.slice (some ⟨bb,ob,none⟩) g.bks.length cb) (.slice (some ⟨PB,0,none⟩) g.qs.length cp) y r w.heap.size (k,t,ea,eb,nm,ot) (fun k=> k=R∨k=PB∨q.ve.ownBlock=some k) w W∧X vm' vo') false W:=h
      clear hnd
      have HST:=aa h
      have hs:ej B R { g with used:=g.used.set n (u+1),qs:=g.qs.set i { q with es:=q.es++[y],ve:=v',hd:=y.2.2.2.1 } } (.slice (some ⟨bb,ob,none⟩) g.bks.length cb) (.slice (some ⟨PB,0,none⟩) g.qs.length cp) y r w.heap.size (k,t,ea,eb,nm,ot) (fun k=> k=R∨k=PB∨q.ve.ownBlock=some k) w W:=h.a rfl;have hlf:=hs.ra.life HV5.out HH5.out;have hms:=(hs.ra.ms _ (aJ HH5.out)).2.2
      intro K Q hK
      simp only [az,updAll,Act.put,aU,aV,aW,aX] at hK ⊢
      go_wp2_with (go_at_call 46;refine(CA.out _ hs.kp.size hlf.1 hms).mono ?_;rintro en w9 ⟨rfl,vm',vo',hl9,ho9,hx9⟩)
      all_goals(have h9:ej B R { g with used:=g.used.set n (u+1),qs:=(g.qs.set i { q with es:=q.es++[y],ve:=v',hd:=y.2.2.2.1 }).set i { q with es:=q.es++[y],ve:=v',hd:=y.2.2.2.1,life:=q.life.add q.nm (k,t,ea,eb,nm,ot),vm:=vm',vo:=vo' } } (.slice (some ⟨bb,ob,none⟩) g.bks.length cb) (.slice (some ⟨PB,0,none⟩) g.qs.length cp) y r w.heap.size (k,t,ea,eb,nm,ot) (fun k=> k=R∨k=PB∨q.ve.ownBlock=some k) w w9:=ej.life hs HV5.out HH5.out (ay (ax rfl)) hl9 ho9 (Nat.succ_ne_zero _))
      all_goals(rw [List.set_set] at h9)
      all_goals(have hm:uQ (fun W=> W.heap[w.heap.size]? =some (.cells (gg (k,t,ea,eb,nm,ot)).toArray 29 (0,0))) (fun W=> ej B R { g with used:=g.used.set n (u+1),qs:=g.qs.set i { q with es:=q.es++[y],ve:=v',hd:=y.2.2.2.1 } } (.slice (some ⟨bb,ob,none⟩) g.bks.length cb) (.slice (some ⟨PB,0,none⟩) g.qs.length cp) y r w.heap.size (k,t,ea,eb,nm,ot) (fun k=> k=R∨k=PB∨q.ve.ownBlock=some k) w W) (fun W=> ∃ vm' vo',ej B R { g with used:=g.used.set n (u+1),qs:=g.qs.set i { q with es:=q.es++[y],ve:=v',hd:=y.2.2.2.1,life:=q.life.add q.nm (k,t,ea,eb,nm,ot),vm:=vm',vo:=vo' } } (.slice (some ⟨bb,ob,none⟩) g.bks.length cb) (.slice (some ⟨PB,0,none⟩) g.qs.length cp) y r w.heap.size (k,t,ea,eb,nm,ot) (fun k=> k=R∨k=PB∨q.ve.ownBlock=some k) w W∧X vm' vo') true w9:=⟨h9.eb,(fun e=> by cases e),fun _=> ⟨vm',vo',h9,hx9⟩⟩)
      all_goals(first | exact hK _ _ hm | exact hm)
     all_goals
      intro bsE vsE W hlb hlv hnd h
      obtain⟨b0,rfl⟩:=jk hlb
      obtain⟨v0,rfl⟩:=jk hlv
      replace h:uQ (fun W=> W.heap[w.heap.size]? =some (.cells (gg (k,t,ea,eb,nm,ot)).toArray 29 (0,0))) (fun W=> ej B R { g with used:=g.used.set n (u+1),qs:=g.qs.set i { q with es:=q.es++[y],ve:=v',hd:=y.2.2.2.1 } } (.slice (some ⟨bb,ob,none⟩) g.bks.length cb) (.slice (some ⟨PB,0,none⟩) g.qs.length cp) y r w.heap.size (k,t,ea,eb,nm,ot) (fun k=> k=R∨k=PB∨q.ve.ownBlock=some k) w W) (fun W=> ∃ vm' vo',ej B R { g with used:=g.used.set n (u+1),qs:=g.qs.set i { q with es:=q.es++[y],ve:=v',hd:=y.2.2.2.1,life:=q.life.add q.nm (k,t,ea,eb,nm,ot),vm:=vm',vo:=vo' } } (.slice (some ⟨bb,ob,none⟩) g.bks.length cb) (.slice (some ⟨PB,0,none⟩) g.qs.length cp) y r w.heap.size (k,t,ea,eb,nm,ot) (fun k=> k=R∨k=PB∨q.ve.ownBlock=some k) w W∧X vm' vo') b0 W:=h
      clear hnd
      have HST:=aa h
      have HXW:W.heap[w.heap.size]? =some (.cells (gg (k,t,ea,eb,nm,ot)).toArray 29 (0,0)):=h.p;obtain⟨x0,x1,x2,x3,x4,x5⟩:=bG HXW;have xl:=ak HXW;clear HXW
      intro K Q hK
      simp only [az,updAll,Act.put,aU,aV,aW,aX] at hK ⊢
      go_wp2_with (fail)
      all_goals(first | exact hK _ h | exact h)
    case done=>
     intro vsE W hlv h
     obtain⟨v0,rfl⟩:=jk hlv
     replace h:uQ (fun W=> W.heap[w.heap.size]? =some (.cells (gg (k,t,ea,eb,nm,ot)).toArray 29 (0,0))) (fun W=> ej B R { g with used:=g.used.set n (u+1),qs:=g.qs.set i { q with es:=q.es++[y],ve:=v',hd:=y.2.2.2.1 } } (.slice (some ⟨bb,ob,none⟩) g.bks.length cb) (.slice (some ⟨PB,0,none⟩) g.qs.length cp) y r w.heap.size (k,t,ea,eb,nm,ot) (fun k=> k=R∨k=PB∨q.ve.ownBlock=some k) w W) (fun W=> ∃ vm' vo',ej B R { g with used:=g.used.set n (u+1),qs:=g.qs.set i { q with es:=q.es++[y],ve:=v',hd:=y.2.2.2.1,life:=q.life.add q.nm (k,t,ea,eb,nm,ot),vm:=vm',vo:=vo' } } (.slice (some ⟨bb,ob,none⟩) g.bks.length cb) (.slice (some ⟨PB,0,none⟩) g.qs.length cp) y r w.heap.size (k,t,ea,eb,nm,ot) (fun k=> k=R∨k=PB∨q.ve.ownBlock=some k) w W∧X vm' vo') true W:=h
     have HST:=aa h
     obtain⟨vm',vo',E5,HX5⟩:=h.z rfl
     simp only [az,updAll,Act.put,aU,aV,aW,aX]
     go_wp2_with fail
     exact bodyPost_end (results_none rfl _ _ _) rfl ⟨rfl,vm',vo',v',E5.ra,E5.kp,HVF.out,HX5⟩
end
section
theorem lO:∀ {k u:Nat},1≤k→u < 10 ^ k→(Lib.decDigits u).length≤k
 | 0,_,h,_=> absurd h (by decide)
 | k+1,u,_,h=> by
  by_cases hu:u < 10
  ·rw [Lib.decDigits_one hu];simp
  ·rw [iK hu]
   have hk:1≤k:=by
    rcases Nat.eq_zero_or_pos k with rfl | hk
    ·simp at h;omega
    ·exact hk
   have:=lO hk (u:=u / 10) (by rw [Nat.pow_succ] at h;omega)
   simp only [cY,List.length_cons,List.length_nil]
   omega
theorem jA(n:Int):(∃ u:Nat,n=u∧Lib.itoa n=Lib.decDigits u)∨(∃ u:Nat,1≤u∧n= -(u:Int)∧Lib.itoa n=45::Lib.decDigits u):=by
 rcases Int.lt_or_le n 0 with h | h
 ·obtain⟨u,hu⟩:=Int.eq_ofNat_of_zero_le (show 0≤ -n by omega)
  have e:n= -(u:Int):=by omega
  exact .inr ⟨u,by omega,e,by rw [e];exact Lib.itoa_neg u (by omega)⟩
 ·obtain⟨u,hu⟩:=Int.eq_ofNat_of_zero_le h
  exact .inl ⟨u,hu,by rw [hu];exact Lib.itoa_nonneg u⟩
theorem uR {u:Nat} {c:UInt8} {r:List UInt8} (h:Lib.decDigits u=c::r):48≤c.toNat∧c.toNat≤57:=mY u c (by rw [h];exact List.mem_cons_self ..)
theorem uS {n:Int} {k:Nat} (h1:-(10 ^ k:Nat) < n)(h2:n < (10 ^ k:Nat))(hk:1≤k):(Lib.itoa n).length≤k+1:=by
 rcases jA n with⟨u,e1,e2⟩ | ⟨u,-,e1,e2⟩
 ·rw [e2];have:=lO hk (u:=u) (by omega);omega
 ·rw [e2];have:=lO hk (u:=u) (by omega);simp only [List.length_cons];omega
/-! strconv.ParseInt at a decimal number. -/
theorem yL {M u:Nat} (hM:M≤18446744073709551615)(hu:u≤M)(r:List UInt8):Lib.parseUintM M 0 (Lib.decDigits u++r)=Lib.parseUintM M u r:=by
 induction u using Nat.strongRecOn generalizing r with
 | ind u ih=>
  have h48:∀ d,d < 10→(UInt8.ofNat (48+d)).toNat=48+d:=fun d hd=> nV hd
  by_cases h:u < 10
  ·rw [Lib.decDigits_one h,List.singleton_append,Lib.parseUintM,h48 u h]
   rw [aG ⟨by omega,by omega⟩,aA (by decide),aA (by omega)]
   congr 1;omega
  ·rw [iK h,List.append_assoc,ih (u / 10) (by omega) (by omega),List.singleton_append,Lib.parseUintM,h48 (u % 10) (by omega)]
   rw [aG ⟨by omega,by omega⟩,aA (by omega),aA (by omega)]
   congr 1;omega
theorem uT {u:Nat} (hu:u≤18446744073709551615):Lib.parseUintB 64 (Lib.decDigits u)=.ok u:=by
 unfold Lib.parseUintB
 rw [aA (ux u)]
 have:=yL (M:=18446744073709551615) (by decide) hu []
 rw [List.append_nil] at this
 exact this
theorem pV {n:Int} (h1:-9223372036854775808≤n)(h2:n≤9223372036854775807):Lib.parseIntB 64 (Lib.itoa n)=.ok n:=by
 rcases jA n with⟨u,e1,e2⟩ | ⟨u,hu,e1,e2⟩
 ·rw [e2]
  cases hd:Lib.decDigits u with
  | nil=> exact absurd hd (ux u)
  | cons c r=>
   have hc:=uR hd
   unfold Lib.parseIntB
   have k1:¬ (c.toNat=43∨c.toNat=45):=by omega
   have k2:¬ c.toNat=45:=by omega
   simp only [aA k1]
   rw [← hd,uT (by omega)]
   simp only [k2,not_false_eq_true,true_and,false_and,if_false]
   rw [aA (by show ¬ 9223372036854775808≤u;omega)]
   rw [e1]
 ·rw [e2]
  unfold Lib.parseIntB
  have k2:(45:UInt8).toNat=45:=rfl
  simp only [k2,or_true,if_true]
  rw [uT (by omega)]
  simp only [not_true_eq_false,false_and,true_and,if_true,if_false]
  rw [aA (by show ¬ 9223372036854775808 < u;omega)]
  rw [e1]
/-! The reference's Number. -/
/-! Spans. -/
end
section
open Sx Go.RowKit
theorem ij {a b:ByteArray} (h:a.data.toList=b.data.toList):a=b:=by
 obtain⟨⟨x⟩⟩:=a
 obtain⟨⟨y⟩⟩:=b
 have h':x=y:=h
 rw [h']
theorem zZ {a b:ByteArray} (h:¬ a=b):¬ a.toList=b.toList:=fun e=> h (ij (by rwa [Lib.toList_data,Lib.toList_data] at e))
end
end Go.Proofs.YtmpilgkfbibhlaaGreatDoor
