/-
 G15T
-/
import Derived.Test.YtmpilgkfbibhlaaGreatDoorG13T
import Derived.Test.YtmpilgkfbibhlaaGreatDoorG14T
set_option linter.unusedSimpArgs false
set_option linter.unusedVariables false
set_option maxRecDepth 100000
set_option maxHeartbeats 20000000
namespace Go.Proofs.YtmpilgkfbibhlaaGreatDoor
section
open Sx Go.RowKit Mr
def oW:Value:=.slice none 0 0
def cJ(nm:ByteArray)(hd:Nat):PkV:=⟨nm,life0,hd,[],oW,oW,oW⟩
theorem xf {g:RegS} {vb vp v':Value} (h8:g.used.length=8)(qs:List PkV):(dW g vb vp).toArray.setIfInBounds 10 v'=(dW { g with qs:=qs } vb v').toArray:=by
  rw [List.setIfInBounds_toArray]
  congr 1
  unfold dW
  dsimp only
  rw [List.set_append_right (h:=by simp [h8])]
  congr 1
  simp [h8]
section
variable {B R:Nat} {g:RegS} {vb vp v':Value} {W W5 w:World} {nm:ByteArray} {hd:Nat}
theorem bj.addPk(h:bj B R g vb vp W)(hg:W.grownBy W5 vp.ownBlock)(ho:W5.ownsRow B 116 20 v' (g.qs.length+1) (flatK g.qs++fK (cJ nm hd))):
    bj B R { g with qs:=g.qs++[cJ nm hd] } vb v' (W5.setCell ⟨R,10,none⟩ v'):=by
  obtain⟨h1,h2,⟨ab,cb,h3,h4⟩,h5,h6,h7,h8,h9⟩:=h
  have hR5:=cV h1 hg h5 (by decide)
  have hK:dJ W (W5.setCell ⟨R,10,none⟩ v'):=fun b cs T fr e n1 n2 n3=> kG hR5 (ax rfl) b cs T fr (cV e hg h5 n2) n1 n2 n3
  have hnil:∀ W:World,bH oW [] W:=bH.nil
  refine⟨?_,h2,⟨ab,cb,h3,hK.books h4⟩,?_,fun q hq=> ?_,fun q hq=> ?_,fun i j p q hij hp hq=> ?_,h9⟩
  · rw [← xf h2]
    exact bn hR5
  · show(W5.setCell ⟨R,10,none⟩ v').ownsRow B 116 20 v' (g.qs++[cJ nm hd]).length (flatK (g.qs++[cJ nm hd]))
    rw [cY,pS]
    exact dG ho hR5 (by decide)
  · rcases List.mem_append.1 hq with hq | hq
    · have:=h6 q hq
      exact⟨hK.srow this.1,hK.srow this.2.1,this.2.2⟩
    · obtain rfl:=List.mem_singleton.1 hq
      exact⟨hnil _,hnil _,fun _=> ⟨rfl,rfl⟩⟩
  · rcases List.mem_append.1 hq with hq | hq
    · exact dG (eX (h7 q hq) hg h5 (by decide)) hR5 (by decide)
    · obtain rfl:=List.mem_singleton.1 hq
      exact⟨rfl,ax ⟨rfl,rfl⟩⟩
  · have key:∀ (i:Nat) (p:PkV),(g.qs++[cJ nm hd])[i]? =some p→g.qs[i]? =some p∨p=cJ nm hd:=fun i p hp=> by
      rcases Nat.lt_or_ge i g.qs.length with c | c
      · rw [List.getElem?_append_left c] at hp;exact ax hp
      · rw [List.getElem?_append_right c] at hp
        exact ay (by have:=aJ hp;exact List.mem_singleton.1 this)
    rcases key i p hp with e1 | rfl
    · rcases key j q hq with e2 | rfl
      · exact h8 i j p q hij e1 e2
      · exact fun k _ e=> by cases e
    · exact fun k e _=> by cases e
end
structure iy(P0 P2:World→Prop)(Bs:Nat)(cs:List Value)(nm:ByteArray)(pt hd:Nat)(vp:Value)(n:Nat)(xs:List Value)(b0 b1 b2 b3 b4 b5 b6 b7:Bool)(v0 v1 v2 v3 v4 v5 v6:Value)(W:World):Prop where
  a:b6=false→P0 W
  m:b6=true→b7=false→∃ Wb,P0 Wb∧Wb.grownBy W vp.ownBlock∧(v6.ownBlock=vp.ownBlock∨v6.ownBlock=some Wb.heap.size)∧W.ownsRow Bs 116 20 v6 (n+1) (xs++cs)
  z:b7=true→P2 W
  r0:b0=true→v0=vp
  r1:b1=true→b4=false→∃ B o,v1=.pointer (some ⟨B,o,none⟩)∧B < W.heap.size∧W.cell? ⟨B,o,none⟩=some (.int .u64 2147483647)∧W.cell? ⟨B,o+1,none⟩=some (.int .i64 3)
  r2:b2=true→v2=.int .u64 (pt:Int)
  r3:b3=true→b4=false→∃ p c,v3=.slice p nm.size c∧ew p (nm.data.toList.map UInt8.toNat) W
  r4:b4=true→v4=.int .u64 (hd:Int)
  r5:b5=true→b6=false→∃ g,v5=.slice (some ⟨g,0,none⟩) 1 1∧W.heap[g]? =some (.cells cs.toArray 116 (0,0))
  n0:b0=false→b6=false
  n1:b1=false→b4=false
  n2:b2=false→b4=false
  n3:b3=false→b4=false
  n4:b4=false→b5=false
  n5:b5=false→b6=false
  n6:b6=false→b7=false
  hb:Bs≤W.heap.size
theorem oe:(Tryz.prog.info? 116).map (fun i=> (i.zero,i.size,i.bytes))=some (some (.agg #[.string ⟨#[]⟩,.int .i64 0,.int .i64 0,.int .i64 0,.int .i64 0,.int .i64 0,.int .i64 0,.string ⟨#[]⟩,.string ⟨#[]⟩,.slice none 0 0,.slice none 0 0,.int .i64 0,.int .i64 0,.bool false,.int .i64 0,.int .i64 0,.int .i64 0,.bool false,.int .u64 0,.slice none 0 0]),20,232):=by kernel_rfl
theorem xg(nm:ByteArray)(hd:Nat):∀ u∈fK (cJ nm hd),u.oneCell'=true:=by
  intro u hu
  simp only [fK,cJ,oW,fD,life0,zP,List.cons_append,List.nil_append,List.mem_cons,List.not_mem_nil,or_false] at hu
  rcases hu with rfl | rfl | rfl | rfl | rfl | rfl | rfl | rfl | rfl | rfl | rfl | rfl | rfl | rfl | rfl | rfl | rfl | rfl | rfl | rfl <;> rfl
section
variable {P0 P2:World→Prop} {Bs n hd pt:Nat} {cs xs:List Value} {nm:ByteArray} {vp:Value} {b0 b1 b2 b3 b4 b5 b6 b7:Bool} {v0 v1 v2 v3 v4 v5 v6:Value} {W w2:World}
theorem iy.step(hP:∀ W w2,P0 W→Below W.heap.size W w2→P0 w2)(h:iy P0 P2 Bs cs nm pt hd vp n xs b0 b1 b2 b3 b4 b5 false false v0 v1 v2 v3 v4 v5 v6 W)(hb:Below W.heap.size W w2):iy P0 P2 Bs cs nm pt hd vp n xs b0 b1 b2 b3 b4 b5 false false v0 v1 v2 v3 v4 v5 v6 w2:=
  ⟨fun e=> hP _ _ (h.a e) hb,(fun e=> by cases e),(fun e=> by cases e),h.r0,fun e1 e2=> by obtain⟨B,o,q1,q2,q3,q4⟩:=h.r1 e1 e2;exact⟨B,o,q1,ar q2 hb.size,ag q3 hb,ag q4 hb⟩,h.r2,
   fun e1 e2=> by obtain⟨p,c,q1,q2⟩:=h.r3 e1 e2;exact⟨p,c,q1,q2.step hb⟩,h.r4,fun e1 e2=> by obtain⟨g,q1,q2⟩:=h.r5 e1 e2;exact⟨g,q1,an q2 hb⟩,h.n0,h.n1,h.n2,h.n3,h.n4,h.n5,h.n6,Nat.le_trans h.hb hb.size⟩
theorem iy.mk0(h:iy P0 P2 Bs cs nm pt hd vp n xs false b1 b2 b3 b4 b5 false false v0 v1 v2 v3 v4 v5 v6 W):iy P0 P2 Bs cs nm pt hd vp n xs true b1 b2 b3 b4 b5 false false vp v1 v2 v3 v4 v5 v6 W:=
  ⟨h.a,h.m,h.z,(fun _=> rfl),h.r1,h.r2,h.r3,h.r4,h.r5,(fun e=> by cases e),h.n1,h.n2,h.n3,h.n4,h.n5,h.n6,h.hb⟩
theorem iy.mk1(hP:∀ W w2,P0 W→Below W.heap.size W w2→P0 w2)(h:iy P0 P2 Bs cs nm pt hd vp n xs b0 false b2 b3 false false false false v0 v1 v2 v3 v4 v5 v6 W)(hb:Below W.heap.size W w2){B o:Nat} (q2:B < w2.heap.size)(q3:w2.cell? ⟨B,o,none⟩=some (.int .u64 2147483647))(q4:w2.cell? ⟨B,o+1,none⟩=some (.int .i64 3)):
    iy P0 P2 Bs cs nm pt hd vp n xs b0 true b2 b3 false false false false v0 (.pointer (some ⟨B,o,none⟩)) v2 v3 v4 v5 v6 w2:=by
  have h:=h.step hP hb
  exact⟨h.a,h.m,h.z,h.r0,(fun _ _=> ⟨B,o,rfl,q2,q3,q4⟩),h.r2,h.r3,h.r4,h.r5,h.n0,(fun e=> by cases e),h.n2,h.n3,h.n4,h.n5,h.n6,h.hb⟩
theorem iy.mk2(h:iy P0 P2 Bs cs nm pt hd vp n xs b0 b1 false b3 false false false false v0 v1 v2 v3 v4 v5 v6 W):iy P0 P2 Bs cs nm pt hd vp n xs b0 b1 true b3 false false false false v0 v1 (.int .u64 (pt:Int)) v3 v4 v5 v6 W:=
  ⟨h.a,h.m,h.z,h.r0,h.r1,(fun _=> rfl),h.r3,h.r4,h.r5,h.n0,h.n1,(fun e=> by cases e),h.n3,h.n4,h.n5,h.n6,h.hb⟩
theorem iy.mk3(hP:∀ W w2,P0 W→Below W.heap.size W w2→P0 w2)(h:iy P0 P2 Bs cs nm pt hd vp n xs b0 b1 b2 false false false false false v0 v1 v2 v3 v4 v5 v6 W)(cap:Nat)(fr:Nat×Nat)(c:Nat):
    iy P0 P2 Bs cs nm pt hd vp n xs b0 b1 b2 true false false false false v0 v1 v2 (.slice (some ⟨W.heap.size,0,none⟩) nm.size c) v4 v5 v6 (W.alloc (.cells (bytesRow nm cap) 5 fr)).drew:=by
  have h:=h.step hP (bU (W:=W) (o:=.cells (bytesRow nm cap) 5 fr)).drew
  exact⟨h.a,h.m,h.z,h.r0,h.r1,h.r2,(fun _ _=> ⟨_,c,rfl,vf (nk nm cap W)⟩),h.r4,h.r5,h.n0,h.n1,h.n2,(fun e=> by cases e),h.n4,h.n5,h.n6,h.hb⟩
theorem iy.mk4(hP:∀ W w2,P0 W→Below W.heap.size W w2→P0 w2)(h:iy P0 P2 Bs cs nm pt hd vp n xs b0 true true true false false false false v0 v1 v2 v3 v4 v5 v6 W)(hb:Below W.heap.size W w2):
    iy P0 P2 Bs cs nm pt hd vp n xs b0 true true true true false false false v0 v1 v2 v3 (.int .u64 (hd:Int)) v5 v6 w2:=by
  have h:=h.step hP hb
  exact⟨h.a,h.m,h.z,h.r0,(fun _ e=> by cases e),h.r2,(fun _ e=> by cases e),(fun _=> rfl),h.r5,h.n0,(fun e=> by cases e),(fun e=> by cases e),(fun e=> by cases e),(fun e=> by cases e),h.n5,h.n6,h.hb⟩
theorem iy.mk5(hP:∀ W w2,P0 W→Below W.heap.size W w2→P0 w2)(h:iy P0 P2 Bs cs nm pt hd vp n xs b0 b1 b2 b3 true false false false v0 v1 v2 v3 v4 v5 v6 W):
    iy P0 P2 Bs cs nm pt hd vp n xs b0 b1 b2 b3 true true false false v0 v1 v2 v3 v4 (.slice (some ⟨W.heap.size,0,none⟩) 1 1) v6 (W.alloc (.cells cs.toArray 116)):=by
  have h:=h.step hP (bU (W:=W) (o:=.cells cs.toArray 116))
  exact⟨h.a,h.m,h.z,h.r0,h.r1,h.r2,h.r3,h.r4,(fun _ _=> ⟨_,rfl,au W _⟩),h.n0,h.n1,h.n2,h.n3,(fun e=> by cases e),(fun e=> by cases e),h.n6,h.hb⟩
theorem iy.app {o:Oper} {a:Act} {K:Act→World→Prop} {Q:Exit→Act→World→Prop} (hown:∀ W,P0 W→W.ownsRow Bs 116 20 vp n xs)(hn:n≤100000)(hcs:cs.length=20)(hone:∀ u∈cs,u.oneCell'=true)(h:iy P0 P2 Bs cs nm pt hd vp n xs true b1 b2 b3 b4 true false false v0 v1 v2 v3 v4 v5 v6 W)
    (s p:Operand) (ho:o.op=.call { callee:=.builtin .append,args:=#[s,p],argTypes:=#[119,119] }) (hs:a.eval s=v0) (hp:a.eval p=v5)
    (hK:∀ v' W',iy P0 P2 Bs cs nm pt hd vp n xs true b1 b2 b3 b4 true true false v0 v1 v2 v3 v4 v5 v' W'→K (a.put o.dst v') W'):o.wp Tryz.prog a W K Q:=by
  obtain⟨i0,hi,hz0,hz1,hz2⟩:=info_parts oe
  obtain rfl:=h.r0 rfl
  obtain⟨g,rfl,hg⟩:=h.r5 rfl rfl
  refine fc (P:=Tryz.prog) W s p 119 ho Bs 116 i0 _ 20 232 Tryz.underlying119 hi hz0 hz1 hz2 rfl (by decide) v0 n xs hs (hown W (h.a rfl)) (some ⟨g,0,none⟩) 1 1 cs hp (by rw [hcs]) (fun _=> ⟨g,0,rfl,fun j u hu=> ah hg (by rw [Nat.zero_add];simpa using hu)⟩) hone (by unfold maxLen;omega) (by omega) h.hb fun v' W' q1 q2 q3=> hK v' W' ?_
  refine⟨(fun e=> by cases e),(fun _ _=> ⟨W,h.a rfl,q2,q3,q1⟩),(fun e=> by cases e),(fun _=> rfl),?_,h.r2,?_,h.r4,(fun _ e=> by cases e),(fun e=> by cases e),h.n1,h.n2,h.n3,h.n4,(fun e=> by cases e),(fun e=> by cases e),Nat.le_trans h.hb q2.size⟩
  · exact fun _ e2=> by have:=h.n4 e2;cases this
  · exact fun _ e2=> by have:=h.n4 e2;cases this
end
end
section
open Sx Go.RowKit Mr
theorem dX {a:RegA} {n:Nat} (hn:n < a.bks.length):leftA a (n:Int)=((a.bks.getD n (0,[])).2.length:Int) - (a.used.getD n 0:Nat):=by
 unfold leftA
 rw [aG ⟨by omega,by omega⟩,Int.toNat_natCast]
theorem ji.addP {a:RegA} (ho:ji a){nm:ByteArray} (hnm:nameB nm=true)(hl:a.ps.length < 100):ji { a with ps:=a.ps++[(nm,[])] }:=by
 refine⟨ho.sec,ho.u8,ho.us,by simp;omega,fun p hp=> ?_⟩
 rcases List.mem_append.1 hp with hp | hp
 ·exact ho.p p hp
 ·obtain rfl:=List.mem_singleton.1 hp
  exact⟨Nat.zero_le _,fA.nil _,fun e he=> by simp [br] at he,hnm⟩
theorem bj.vpS {B R:Nat} {g:RegS} {vb vp:Value} {w:World} (h:bj B R g vb vp w):∃ pa cp,vp=.slice pa g.qs.length cp:=by
 obtain⟨-,h2⟩:=h.row
 rcases h2 with⟨e1,e2⟩ | ⟨PB,cp,cur,q1,-⟩
 ·exact⟨none,0,by rw [e1,e2]⟩
 ·exact⟨_,cp,q1⟩
theorem bj.veS {B R:Nat} {g:RegS} {vb vp:Value} {w:World} (h:bj B R g vb vp w){q:PkV} (hq:q∈g.qs):∃ pa cp,q.ve=.slice pa q.es.length cp:=by
 obtain⟨-,h2⟩:=h.es q hq
 rcases h2 with⟨e1,e2⟩ | ⟨PB,cp,cur,q1,-⟩
 ·exact⟨none,0,by rw [e1,e2]⟩
 ·exact⟨_,cp,q1⟩
section
variable {a:RegA} {b:Int} {nm:ByteArray} {e:bQ}
theorem gK(hb:¬ (0≤b∧b < a.bks.length)):bi a b nm e=(3,a):=by unfold bi;rw [aG hb]
theorem dY(hb:0≤b∧b < a.bks.length)(h:¬ (nameB nm=true∧eC e=true∧e.1≠5∧e.1≠6)):bi a b nm e=(2,a):=by unfold bi;rw [aA (fun c=> c hb),aG h]
theorem ez(hb:0≤b∧b < a.bks.length)(h:nameB nm=true∧eC e=true∧e.1≠5∧e.1≠6)(hk:e.1=1):bi a b nm e=
  if findA nm a < a.ps.length then(12,a)else if 100≤a.ps.length then(11,a)else if leftA a b < 1 then(4,a)else(0,putA { a with ps:=a.ps++[(nm,[])] } b.toNat a.ps.length e):=by
 unfold bi;rw [aA (fun c=> c hb),aA (fun c=> c h),aG hk]
theorem gP(hb:0≤b∧b < a.bks.length)(h:nameB nm=true∧eC e=true∧e.1≠5∧e.1≠6)(hk:e.1≠1):bi a b nm e=match a.ps[findA nm a]? with
  | none=> (5,a)
  | some p=> if cg p.1 (lf p) e=false then(10,a)else if 500≤p.2.length then(11,a)else if leftA a b < 1 then(4,a)else(0,putA a b.toNat (findA nm a) e):=by
 unfold bi;rw [aA (fun c=> c hb),aA (fun c=> c h),aA hk];rfl
theorem jD {pa:Option Addr} {n i cp:Nat} (h:¬ i < n):kE (.slice pa n cp) n i=.pointer none:=by
 unfold kE
 cases pa with
 | none=> rfl
 | some ad=> dsimp only;rw [aA h]
theorem eM {PB n i cp:Nat} (h:i < n):kE (.slice (some ⟨PB,0,none⟩) n cp) n i=.pointer (some ⟨PB,i*20,none⟩):=by
 unfold kE;dsimp only;rw [aG h]
theorem aP {W:World} {B E sz n:Nat} {v:Value} {xs:List Value} (h:W.ownsRow B E sz v n xs):∃ a c,v=.slice a n c:=by
 obtain⟨-,h2⟩:=h
 rcases h2 with⟨e1,e2⟩ | ⟨PB,cp,cur,q1,-⟩
 ·exact⟨none,0,by rw [e1,e2]⟩
 ·exact⟨_,cp,q1⟩
end
theorem sr {B R E hd:Nat} {g:RegS} {vb vp v':Value} {w Wb W:World} {cs:Array Value} {nm:ByteArray} (h:bj B R g vb vp Wb)(hw:Below w.heap.size w Wb)(he:Wb.heap[E]? =some (.cells cs 29 (0,0)))
  (hg:Wb.grownBy W vp.ownBlock) (hv:v'.ownBlock=vp.ownBlock∨v'.ownBlock=some Wb.heap.size) (ho:W.ownsRow B 116 20 v' (g.qs.length+1) (flatK g.qs++fK (cJ nm hd))):
  W.cell? ⟨R,10,none⟩=some vp∧W.frozen? ⟨R,10,none⟩=false∧R < W.heap.size∧bj B R { g with qs:=g.qs++[cJ nm hd] } vb v' (W.setCell ⟨R,10,none⟩ v')∧bT R g vp { g with qs:=g.qs++[cJ nm hd] } v' w (W.setCell ⟨R,10,none⟩ v')∧(W.setCell ⟨R,10,none⟩ v').heap[E]? =some (.cells cs 29 (0,0)):=by
 have hR:=cV h.reg hg h.row (by decide)
 have h8:=h.u8
 refine⟨ah hR (by simp [dW,h8]),aR hR,ak hR,h.addPk hg ho,⟨?_,fun k hk=> ?_,fun k hk hN q hq=> ?_⟩,bA (cV he hg h.row (by decide)) (fun c=> ?_)⟩
 ·exact((bP.of_below hw).grown hg fun k hk _=> ay (ax hk)).set (ax rfl)
 ·rcases hk with rfl | hk | ⟨q,hq,hk⟩
  ·exact ax (ax rfl)
  ·rcases hv with hv | hv
   ·exact ax (ay (ax (by rw [← hv];exact hk)))
   ·rw [hv] at hk
    obtain rfl:=bD hk
    exact ay hw.size
  ·rcases List.mem_append.1 hq with hq | hq
   ·exact ax (ay (ay ⟨q,hq,hk⟩))
   ·obtain rfl:=List.mem_singleton.1 hq
    cases hk
 ·rcases List.mem_append.1 hq with hq | hq
  ·exact hN q hq
  ·obtain rfl:=List.mem_singleton.1 hq
   exact⟨fun c=> absurd rfl c,fun c=> absurd rfl c⟩
 ·have c2:E=R:=c
  rw [c2,h.reg] at he
  cases he
section
variable {B R n:Nat} {a:RegA} {g g2:RegS} {vb vp vp2:Value} {w w' W:World} {nm:ByteArray} {a':RegA}
theorem gh.after(hM:bT R g vp g2 vp2 w W)(hN:gh B R vb a' g2 vp2 W w'):gh B R vb a' g vp w w':=by
 obtain⟨g',vp',h1,h2⟩:=hN
 exact⟨g',vp',h1,hM.trans h2⟩
theorem bW.addP(h:bW B R vb a g vp w)(hr:bj B R { g with qs:=g.qs++[cJ nm (beginE g.pt nm)] } vb vp2 W):bW B R vb { a with ps:=a.ps++[(nm,[])] } { g with qs:=g.qs++[cJ nm (beginE g.pt nm)] } vp2 W:=by
 refine⟨hr,?_,fun q hq=> ?_⟩
 ·rw [← h.abs]
  unfold RegS.abs
  dsimp only
  rw [List.map_append]
  rfl
 ·rcases List.mem_append.1 hq with hq | hq
  ·exact h.lf q hq
  ·obtain rfl:=List.mem_singleton.1 hq
   exact⟨rfl,rfl⟩
theorem su(h:bW B R vb a g vp w)(ho:dc a)(hnm:nameB nm=true)(hl:a.ps.length < 100)(hn:n < a.bks.length)(hu:a.used.getD n 0 < (a.bks.getD n (0,[])).2.length)(e:bQ)(hk:e.1=1)(hok:eC e=true)(hr:bj B R { g with qs:=g.qs++[cJ nm (beginE g.pt nm)] } vb vp2 W):
  ∃ PB2 cp2 M,vp2=.slice (some ⟨PB2,0,none⟩) M cp2∧M=g.qs.length+1∧∀ W',Below W.heap.size W W'→Calls Tryz.prog 65 #[.pointer (some ⟨R,0,none⟩),.int .i64 (n:Int),.pointer (some ⟨PB2,g.qs.length*20,none⟩),kZ e] W' fun en w'=> en=.returned (.tuple #[])∧gh B R vb (putA { a with ps:=a.ps++[(nm,[])] } n a.ps.length e) { g with qs:=g.qs++[cJ nm (beginE g.pt nm)] } vp2 W' w':=by
 have hv:=h.addP hr
 have hp:({ a with ps:=a.ps++[(nm,[])] }:RegA).ps[a.ps.length]? =some (nm,[]):=by simp
 have hc:cg nm (lf (nm,[])) e=true:=by show cg nm life0 e=true;unfold cg;rw [aG (show life0.n=0 from rfl),hk];rfl
 have hob:=ho.toji.addP hnm hl
 obtain⟨PB2,cp2,e1,-⟩:=jC hv hob hp hn hu hok hc
 refine⟨PB2,cp2,_,e1,by simp,fun W' hW=> ?_⟩
 obtain⟨PB3,cp3,e2,c3⟩:=jC (hv.step hW) hob hp hn hu hok hc
 rw [e1] at e2
 cases e2
 rw [h.len]
 exact c3
end
theorem xh {B R:Nat} {a:RegA} {g:RegS} {vb vp:Value} {w:World} (h:bW B R vb a g vp w)(ho:dc a)(hG:dn w)(b:Int)(nm:ByteArray)(k t ea eb:Int)(n1 ot:ByteArray)(hs:nm.size≤1000000∧n1.size≤1000000∧ot.size≤1000000):
  Calls Tryz.prog 72 #[.pointer (some ⟨R,0,none⟩),.int .i64 b,.string nm,.agg #[.int .i64 k,.int .i64 t,.int .i64 ea,.int .i64 eb,.string n1,.string ot]] w fun en w'=> en=.returned (.int .i64 (bi a b nm (k,t,ea,eb,n1,ot)).1)∧gh B R vb (bi a b nm (k,t,ea,eb,n1,ot)).2 g vp w w':=by
 have hok:=h.ok ho.toji
 have hbks:g.bks=a.bks:=by rw [← h.abs];rfl
 have hlen:=h.len
 have hnp:=ho.np
 have hla:lM g b=leftA a b:=by rw [jZ,h.abs]
 have H:=aa h
 obtain⟨pa,cp,hvp⟩:=h.ra.vpS
 subst hvp
 have CV:=aa (fun W (hW:Below w.heap.size w W)=> dm (h.ra.step hW) hok.pt.1)
 have CB:=aa (fun W (hW:Below w.heap.size w W)=> book_any (h.ra.step hW) b)
 have CN:=aa (fun W=> eR nm W (by omega))
 have CK:=aa (fun W (hW:Below w.heap.size w W)=> nc k t ea eb n1 ot W (dV hG hW) hs.2.1 hs.2.2)
 have CF:=aa (fun W (hW:Below w.heap.size w W)=> fM (h.ra.step hW) nm (by omega))
 have CL:=aa (fun W (hW:Below w.heap.size w W)=> jX (h.ra.step hW) hok b)
 rw [hbks] at CB
 rw [hla] at CL
 rw [h.find] at CF
 have HG:=aa hG
 have HO:=aa ho
 have HC:=aa (ba h.ra.cells.2.2.1 h.ra.cells.2.2.2.1)
 have HLN:=aa hlen
 have HS:=aa hs
 clear hok hbks hnp hla hG hs hlen
 have HX:=aa (au w (.cells #[.int .i64 k,.int .i64 t,.int .i64 ea,.int .i64 eb,.string n1,.string ot] 29))
 have HB:=aa (bU (W:=w) (o:=(.cells #[.int .i64 k,.int .i64 t,.int .i64 ea,.int .i64 eb,.string n1,.string ot] 29)))
 clear h ho
 go_enter Tryz.func72,Tryz.ntmps72
 go_upto_region 1 with fail
 generalize w.alloc (.cells #[.int .i64 k,.int .i64 t,.int .i64 ea,.int .i64 eb,.string n1,.string ot] 29)=W0 at*
 obtain⟨x0,x1,x2,x3,x4,x5⟩:=bG HX.out;have xl:=ak HX.out;have c10:=ag HC.out.1 HB.out;have cR:=ar HC.out.2 HB.out.size
 cases hbB:decide (0≤b∧b < a.bks.length)with
 | false=>
  rw [hbB] at CB
  have HMM:=aa (show bi a b nm (k,t,ea,eb,n1,ot)=(3,a)from gK (of_decide_eq_false hbB))
  clear hbB
  go_wp2_with ((first | (go_at_call 56;refine(CV.out _ HB.out).mono ?_) | (go_at_call 59;refine(CB.out _ HB.out).mono ?_));rintro e w1 ⟨rfl,hbn⟩;have HX9:=aa (an HX.out hbn);have HB9:=aa (ai HB.out hbn);clear HX HB hbn;clear x0 x1 x2 x3 x4 x5 xl c10 cR;have HX:=HX9;have HB:=HB9;clear HX9 HB9;obtain⟨x0,x1,x2,x3,x4,x5⟩:=bG HX.out;have xl:=ak HX.out;have c10:=ag HC.out.1 HB.out;have cR:=ar HC.out.2 HB.out.size)
  exact aH (v:=.int .i64 3) rfl rfl rfl ⟨by rw [HMM.out],by rw [HMM.out];exact H.out.stay HB.out⟩
 | true=>
  rw [hbB] at CB
  have hb:=of_decide_eq_true hbB
  clear hbB
  obtain⟨n,rfl⟩:=Int.eq_ofNat_of_zero_le hb.1
  go_upto_region 5 with((first | (go_at_call 56;refine(CV.out _ HB.out).mono ?_) | (go_at_call 59;refine(CB.out _ HB.out).mono ?_));rintro e w1 ⟨rfl,hbn⟩;have HX9:=aa (an HX.out hbn);have HB9:=aa (ai HB.out hbn);clear HX HB hbn;clear x0 x1 x2 x3 x4 x5 xl c10 cR;have HX:=HX9;have HB:=HB9;clear HX9 HB9;obtain⟨x0,x1,x2,x3,x4,x5⟩:=bG HX.out;have xl:=ak HX.out;have c10:=ag HC.out.1 HB.out;have cR:=ar HC.out.2 HB.out.size)
  cases h2:nameB nm with
  | false=>
   rw [h2] at CN
   have HMM:=aa (show bi a (n:Int) nm (k,t,ea,eb,n1,ot)=(2,a)from dY hb (by rintro⟨c1,c2,c5,c6⟩;exact absurd (h2.symm.trans c1) (by decide)))
   clear hb h2
   go_wp2_with (go_at_call 39;refine(CN.out _).mono ?_;rintro e w1 ⟨rfl,hbn⟩;have HX9:=aa (an HX.out hbn);have HB9:=aa (ai HB.out hbn);clear HX HB hbn;clear x0 x1 x2 x3 x4 x5 xl c10 cR;have HX:=HX9;have HB:=HB9;clear HX9 HB9;obtain⟨x0,x1,x2,x3,x4,x5⟩:=bG HX.out;have xl:=ak HX.out;have c10:=ag HC.out.1 HB.out;have cR:=ar HC.out.2 HB.out.size)
   exact aH (v:=.int .i64 2) rfl rfl rfl ⟨by rw [HMM.out],by rw [HMM.out];exact H.out.stay HB.out⟩
  | true=>
   rw [h2] at CN
   cases h3:gy k t ea eb n1 ot with
   | false=>
    rw [h3] at CK
    simp only [cond_false] at CK
    have HMM:=aa (show bi a (n:Int) nm (k,t,ea,eb,n1,ot)=(2,a)from dY hb (by rintro⟨c1,c2,c5,c6⟩;exact absurd (h3.symm.trans c2) (by decide)))
    clear hb h2 h3
    go_wp2_with ((first | (go_at_call 39;refine(CN.out _).mono ?_) | (go_at_call 42;refine(CK.out _ HB.out).mono ?_));rintro e w1 ⟨rfl,hbn⟩;have HX9:=aa (an HX.out hbn);have HB9:=aa (ai HB.out hbn);clear HX HB hbn;clear x0 x1 x2 x3 x4 x5 xl c10 cR;have HX:=HX9;have HB:=HB9;clear HX9 HB9;obtain⟨x0,x1,x2,x3,x4,x5⟩:=bG HX.out;have xl:=ak HX.out;have c10:=ag HC.out.1 HB.out;have cR:=ar HC.out.2 HB.out.size)
    exact aH (v:=.int .i64 2) rfl rfl rfl ⟨by rw [HMM.out],by rw [HMM.out];exact H.out.stay HB.out⟩
   | true=>
    rw [h3] at CK
    simp only [cond_true] at CK
    by_cases k5:k=5
    ·have z5:(k==5)=true:=by rw [k5];decide
     have HMM:=aa (show bi a (n:Int) nm (k,t,ea,eb,n1,ot)=(2,a)from dY hb (by rintro⟨c1,c2,c5,c6⟩;exact c5 k5))
     clear hb h2 h3 k5
     go_wp2_with ((first | (go_at_call 39;refine(CN.out _).mono ?_) | (go_at_call 42;refine(CK.out _ HB.out).mono ?_));rintro e w1 ⟨rfl,hbn⟩;have HX9:=aa (an HX.out hbn);have HB9:=aa (ai HB.out hbn);clear HX HB hbn;clear x0 x1 x2 x3 x4 x5 xl c10 cR;have HX:=HX9;have HB:=HB9;clear HX9 HB9;obtain⟨x0,x1,x2,x3,x4,x5⟩:=bG HX.out;have xl:=ak HX.out;have c10:=ag HC.out.1 HB.out;have cR:=ar HC.out.2 HB.out.size)
     exact aH (v:=.int .i64 2) rfl rfl rfl ⟨by rw [HMM.out],by rw [HMM.out];exact H.out.stay HB.out⟩
    ·by_cases k6:k=6
     ·have z5:(k==5)=false:=by simpa using k5
      have z6:(k==6)=true:=by rw [k6];decide
      have HMM:=aa (show bi a (n:Int) nm (k,t,ea,eb,n1,ot)=(2,a)from dY hb (by rintro⟨c1,c2,c5,c6⟩;exact c6 k6))
      clear hb h2 h3 k5 k6
      go_wp2_with ((first | (go_at_call 39;refine(CN.out _).mono ?_) | (go_at_call 42;refine(CK.out _ HB.out).mono ?_));rintro e w1 ⟨rfl,hbn⟩;have HX9:=aa (an HX.out hbn);have HB9:=aa (ai HB.out hbn);clear HX HB hbn;clear x0 x1 x2 x3 x4 x5 xl c10 cR;have HX:=HX9;have HB:=HB9;clear HX9 HB9;obtain⟨x0,x1,x2,x3,x4,x5⟩:=bG HX.out;have xl:=ak HX.out;have c10:=ag HC.out.1 HB.out;have cR:=ar HC.out.2 HB.out.size)
      exact aH (v:=.int .i64 2) rfl rfl rfl ⟨by rw [HMM.out],by rw [HMM.out];exact H.out.stay HB.out⟩
     ·skip
      have z5:(k==5)=false:=by simpa using k5
      have z6:(k==6)=false:=by simpa using k6
      go_upto_region 7 with((first | (go_at_call 39;refine(CN.out _).mono ?_) | (go_at_call 42;refine(CK.out _ HB.out).mono ?_));rintro e w1 ⟨rfl,hbn⟩;have HX9:=aa (an HX.out hbn);have HB9:=aa (ai HB.out hbn);clear HX HB hbn;clear x0 x1 x2 x3 x4 x5 xl c10 cR;have HX:=HX9;have HB:=HB9;clear HX9 HB9;obtain⟨x0,x1,x2,x3,x4,x5⟩:=bG HX.out;have xl:=ak HX.out;have c10:=ag HC.out.1 HB.out;have cR:=ar HC.out.2 HB.out.size)
      by_cases k1:k=1
      ·have z1:(k==1)=true:=by rw [k1];decide
       by_cases h4:findA nm a < a.ps.length
       ·skip
        obtain⟨PB,cp2,cur,evp,hPB,hbP,-⟩:=H.out.ra.packs (by rintro c;have h9:=HLN.out;rw [c] at h9;simp at h9;omega)
        cases evp
        rw [eM (by have:=HLN.out;omega)] at CF
        have HMM:=aa (show bi a (n:Int) nm (k,t,ea,eb,n1,ot)=(12,a)from by rw [ez (e:=(k,t,ea,eb,n1,ot)) hb ⟨h2,(show eC (k,t,ea,eb,n1,ot)=true from h3),(show k≠5 from k5),(show k≠6 from k6)⟩ k1,aG h4])
        generalize findA nm a=i at*
        clear hb h2 h3 h4 hbP hPB k1 k5 k6
        go_wp2_with (go_at_call 57;refine(CF.out _ HB.out).mono ?_;rintro e w1 ⟨rfl,hbn⟩;have HX9:=aa (an HX.out hbn);have HB9:=aa (ai HB.out hbn);clear HX HB hbn;clear x0 x1 x2 x3 x4 x5 xl c10 cR;have HX:=HX9;have HB:=HB9;clear HX9 HB9;obtain⟨x0,x1,x2,x3,x4,x5⟩:=bG HX.out;have xl:=ak HX.out;have c10:=ag HC.out.1 HB.out;have cR:=ar HC.out.2 HB.out.size)
        exact aH (v:=.int .i64 12) rfl rfl rfl ⟨by rw [HMM.out],by rw [HMM.out];exact H.out.stay HB.out⟩
       ·skip
        rw [jD (by have:=HLN.out;omega)] at CF
        by_cases h5:100≤a.ps.length
        ·have h6:(100:Int)≤g.qs.length:=by have:=HLN.out;omega
         have HMM:=aa (show bi a (n:Int) nm (k,t,ea,eb,n1,ot)=(11,a)from by rw [ez (e:=(k,t,ea,eb,n1,ot)) hb ⟨h2,(show eC (k,t,ea,eb,n1,ot)=true from h3),(show k≠5 from k5),(show k≠6 from k6)⟩ k1,aA h4,aG h5])
         generalize findA nm a=i at*
         clear hb h2 h3 h4 h5 k1 k5 k6
         go_wp2_with (go_at_call 57;refine(CF.out _ HB.out).mono ?_;rintro e w1 ⟨rfl,hbn⟩;have HX9:=aa (an HX.out hbn);have HB9:=aa (ai HB.out hbn);clear HX HB hbn;clear x0 x1 x2 x3 x4 x5 xl c10 cR;have HX:=HX9;have HB:=HB9;clear HX9 HB9;obtain⟨x0,x1,x2,x3,x4,x5⟩:=bG HX.out;have xl:=ak HX.out;have c10:=ag HC.out.1 HB.out;have cR:=ar HC.out.2 HB.out.size)
         exact aH (v:=.int .i64 11) rfl rfl rfl ⟨by rw [HMM.out],by rw [HMM.out];exact H.out.stay HB.out⟩
        ·have h7:¬ (100:Int)≤g.qs.length:=by have:=HLN.out;omega
         by_cases h6:leftA a (n:Int) < 1
         ·skip
          have HMM:=aa (show bi a (n:Int) nm (k,t,ea,eb,n1,ot)=(4,a)from by rw [ez (e:=(k,t,ea,eb,n1,ot)) hb ⟨h2,(show eC (k,t,ea,eb,n1,ot)=true from h3),(show k≠5 from k5),(show k≠6 from k6)⟩ k1,aA h4,aA h5,aG h6])
          generalize findA nm a=i at*
          generalize leftA a (n:Int)=L at*
          clear hb h2 h3 h4 h5 k1 k5 k6
          go_upto_region 15 with(go_at_call 57;refine(CF.out _ HB.out).mono ?_;rintro e w1 ⟨rfl,hbn⟩;have HX9:=aa (an HX.out hbn);have HB9:=aa (ai HB.out hbn);clear HX HB hbn;clear x0 x1 x2 x3 x4 x5 xl c10 cR;have HX:=HX9;have HB:=HB9;clear HX9 HB9;obtain⟨x0,x1,x2,x3,x4,x5⟩:=bG HX.out;have xl:=ak HX.out;have c10:=ag HC.out.1 HB.out;have cR:=ar HC.out.2 HB.out.size)
          refine aF (by kernel_rfl) (by kernel_rfl) ?_
          repeat(first | (refine WQ.skip rfl rfl rfl rfl ?_;simp only [Act.put,aU,aV,aW,aX]) | ((first | (apply WQ.val;(exact rfl)) | (apply WQ.valg;(exact rfl);(exact rfl);(exact rfl)));(intro w9 hw9;obtain⟨s9,rfl⟩:=hw9;simp [go_sem];first | done | exact rfl);simp only [Act.put,aU,aV,aW,aX]))
          refine WQ.fin fun W4 hbn=> ?_
          have HX9:=aa (an HX.out hbn);have HB9:=aa (ai HB.out hbn);clear HX HB hbn;clear x0 x1 x2 x3 x4 x5 xl c10 cR;have HX:=HX9;have HB:=HB9;clear HX9 HB9;obtain⟨x0,x1,x2,x3,x4,x5⟩:=bG HX.out;have xl:=ak HX.out;have c10:=ag HC.out.1 HB.out;have cR:=ar HC.out.2 HB.out.size
          go_wp2_with (go_at_call 17;refine(CL.out _ HB.out).mono ?_;rintro e w1 ⟨rfl,hbn⟩;have HX9:=aa (an HX.out hbn);have HB9:=aa (ai HB.out hbn);clear HX HB hbn;clear x0 x1 x2 x3 x4 x5 xl c10 cR;have HX:=HX9;have HB:=HB9;clear HX9 HB9;obtain⟨x0,x1,x2,x3,x4,x5⟩:=bG HX.out;have xl:=ak HX.out;have c10:=ag HC.out.1 HB.out;have cR:=ar HC.out.2 HB.out.size)
          exact aH (v:=.int .i64 4) rfl rfl rfl ⟨by rw [HMM.out],by rw [HMM.out];exact H.out.stay HB.out⟩
         ·skip
          have HK1:=aa k1
          have HMM:=aa (show bi a (n:Int) nm (k,t,ea,eb,n1,ot)=(0,putA { a with ps:=a.ps++[(nm,[])] } n a.ps.length (k,t,ea,eb,n1,ot))from by rw [ez (e:=(k,t,ea,eb,n1,ot)) hb ⟨h2,(show eC (k,t,ea,eb,n1,ot)=true from h3),(show k≠5 from k5),(show k≠6 from k6)⟩ k1,aA h4,aA h5,aA h6,Int.toNat_natCast])
          have hok:=H.out.ok HO.out.toji
          have hsz:=(bI h2).2
          have CD:=aa (fun W BL oL cap a (hb:BL < W.heap.size) hP hQ hA=> ig 2147483647 3 g.pt BL oL cap a (nm.data.toList.map UInt8.toNat) W (by decide) (by decide) (by have:=hok.pt.2;unfold P31 at this;omega) (by decide) (by decide) (kS nm) (by rw [iR];omega) hb hP hQ hA)
          have hBE:dig 2147483647 3 g.pt (nm.data.toList.map UInt8.toNat)=beginE g.pt nm:=rfl
          rw [hBE] at CD
          simp only [iR] at CD
          clear hBE
          have HQL:=aa (show g.qs.length≤100000 by have:=HLN.out;have:=HO.out.np;omega)
          generalize findA nm a=i at*
          have HL6:Hid (¬ leftA a (n:Int) < 1):=h6
          generalize hLL:leftA a (n:Int)=L at*
          have HLL:=aa hLL
          have HHH:=aa (ba hb (ba h2 (ba h3 h5)))
          have HPS:Hid (∀ W w2,(fun W=> bj B R g vb (.slice pa g.qs.length cp) W∧Below w.heap.size w W∧W.heap[w.heap.size]? =some (.cells #[.int .i64 k,.int .i64 t,.int .i64 ea,.int .i64 eb,.string n1,.string ot] 29 (0,0))) W→Below W.heap.size W w2→(fun W=> bj B R g vb (.slice pa g.qs.length cp) W∧Below w.heap.size w W∧W.heap[w.heap.size]? =some (.cells #[.int .i64 k,.int .i64 t,.int .i64 ea,.int .i64 eb,.string n1,.string ot] 29 (0,0))) w2):=fun W w2 hW hb9=> ⟨hW.1.step hb9,ai hW.2.1 hb9,an hW.2.2 hb9⟩
          clear hb h2 h3 h4 h5 hok hsz hLL k1 k5 k6
          go_upto_region 15 with(go_at_call 57;refine(CF.out _ HB.out).mono ?_;rintro e w1 ⟨rfl,hbn⟩;have HX9:=aa (an HX.out hbn);have HB9:=aa (ai HB.out hbn);clear HX HB hbn;clear x0 x1 x2 x3 x4 x5 xl c10 cR;have HX:=HX9;have HB:=HB9;clear HX9 HB9;obtain⟨x0,x1,x2,x3,x4,x5⟩:=bG HX.out;have xl:=ak HX.out;have c10:=ag HC.out.1 HB.out;have cR:=ar HC.out.2 HB.out.size)
          refine aF (by kernel_rfl) (by kernel_rfl) ?_
          repeat(first | (refine WQ.skip rfl rfl rfl rfl ?_;simp only [Act.put,aU,aV,aW,aX]) | ((first | (apply WQ.val;(exact rfl)) | (apply WQ.valg;(exact rfl);(exact rfl);(exact rfl)));(intro w9 hw9;obtain⟨s9,rfl⟩:=hw9;simp [go_sem];first | done | exact rfl);simp only [Act.put,aU,aV,aW,aX]))
          refine WQ.fin fun W4 hbn=> ?_
          have HX9:=aa (an HX.out hbn);have HB9:=aa (ai HB.out hbn);clear HX HB hbn;clear x0 x1 x2 x3 x4 x5 xl c10 cR;have HX:=HX9;have HB:=HB9;clear HX9 HB9;obtain⟨x0,x1,x2,x3,x4,x5⟩:=bG HX.out;have xl:=ak HX.out;have c10:=ag HC.out.1 HB.out;have cR:=ar HC.out.2 HB.out.size
          go_upto_region 22 with(go_at_call 17;refine(CL.out _ HB.out).mono ?_;rintro e w1 ⟨rfl,hbn⟩;have HX9:=aa (an HX.out hbn);have HB9:=aa (ai HB.out hbn);clear HX HB hbn;clear x0 x1 x2 x3 x4 x5 xl c10 cR;have HX:=HX9;have HB:=HB9;clear HX9 HB9;obtain⟨x0,x1,x2,x3,x4,x5⟩:=bG HX.out;have xl:=ak HX.out;have c10:=ag HC.out.1 HB.out;have cR:=ar HC.out.2 HB.out.size)
          refine bo 22 22 130 [(4,97),(7,100),(11,104),(13,106),(14,107),(17,110),(18,111),(21,137)] [(none,[]),(none,[]),(none,[]),(none,[]),(some 0,[]),(none,[]),(none,[]),(some 1,[]),(none,[]),(none,[]),(none,[]),(some 2,[]),(none,[]),(some 3,[]),(some 4,[1,2,3]),(none,[4]),(none,[]),(some 5,[4]),(some 6,[0,5]),(none,[]),(none,[]),(some 7,[6])] [(93,(.pointer (some ⟨R,0,none⟩))),(94,(.pointer (some ⟨R,0,none⟩))),(95,(.pointer (some ⟨R,0,none⟩))),(96,(.pointer (some ⟨R,10,none⟩))),(98,(.string nm)),(99,(.agg #[.string nm,.int .i64 0,.int .i64 0,.int .i64 0,.int .i64 0,.int .i64 0,.int .i64 0,.string ⟨#[]⟩,.string ⟨#[]⟩,.slice none 0 0,.slice none 0 0,.int .i64 0,.int .i64 0,.bool false,.int .i64 0,.int .i64 0,.int .i64 0,.bool false])),(101,(.pointer (some ⟨R,0,none⟩))),(102,(.pointer (some ⟨R,0,none⟩))),(103,(.pointer (some ⟨R,0,none⟩))),(105,(.string nm)),(108,(.agg #[(.int .u64 (beginE g.pt nm:Int))])),(109,(.agg #[.string nm,.int .i64 0,.int .i64 0,.int .i64 0,.int .i64 0,.int .i64 0,.int .i64 0,.string ⟨#[]⟩,.string ⟨#[]⟩,.slice none 0 0,.slice none 0 0,.int .i64 0,.int .i64 0,.bool false,.int .i64 0,.int .i64 0,.int .i64 0,.bool false,(.int .u64 (beginE g.pt nm:Int)),.slice none 0 0])),(112,(.pointer (some ⟨R,0,none⟩))),(113,(.pointer (some ⟨R,10,none⟩)))] (fun bsE vsE W=> iy (fun W=> bj B R g vb (.slice pa g.qs.length cp) W∧Below w.heap.size w W∧W.heap[w.heap.size]? =some (.cells #[.int .i64 k,.int .i64 t,.int .i64 ea,.int .i64 eb,.string n1,.string ot] 29 (0,0))) (fun W=> ∃ vp',bj B R ({ g with qs:=g.qs++[cJ nm (beginE g.pt nm)] }) vb vp' W∧bT R g (.slice pa g.qs.length cp) ({ g with qs:=g.qs++[cJ nm (beginE g.pt nm)] }) vp' w W∧W.heap[w.heap.size]? =some (.cells #[.int .i64 k,.int .i64 t,.int .i64 ea,.int .i64 eb,.string n1,.string ot] 29 (0,0))) B (fK (cJ nm (beginE g.pt nm))) nm g.pt (beginE g.pt nm) (.slice pa g.qs.length cp) g.qs.length (flatK g.qs) (bsE.getD 0 false) (bsE.getD 1 false) (bsE.getD 2 false) (bsE.getD 3 false) (bsE.getD 4 false) (bsE.getD 5 false) (bsE.getD 6 false) (bsE.getD 7 false) ((vsE.getD 0 undef)) ((vsE.getD 1 undef)) ((vsE.getD 2 undef)) ((vsE.getD 3 undef)) ((vsE.getD 4 undef)) ((vsE.getD 5 undef)) ((vsE.getD 6 undef)) W) (by kernel_rfl) (by kernel_rfl) rfl rfl (by kernel_rfl) (by rfl) ?h0 ?each ?done
          case h0=>
           intro vsE hlv
           obtain⟨v0,v1,v2,v3,v4,v5,v6,v7,rfl⟩:=mE hlv
           exact⟨(fun _=> ⟨H.out.ra.step (HB.out.drew),HB.out.drew,HX.out⟩),(fun e=> by cases e),(fun e=> by cases e),(fun e=> by cases e),(fun e=> by cases e),(fun e=> by cases e),(fun e=> by cases e),(fun e=> by cases e),(fun e=> by cases e),(fun _=> rfl),(fun _=> rfl),(fun _=> rfl),(fun _=> rfl),(fun _=> rfl),(fun _=> rfl),(fun _=> rfl),Nat.le_trans H.out.ra.base HB.out.size⟩
          case each=>
           simp only [dp]
           refine⟨⟨93,(.pointer (some ⟨R,0,none⟩)),rfl,by kernel_rfl,?_⟩,⟨94,(.pointer (some ⟨R,0,none⟩)),rfl,by kernel_rfl,?_⟩,⟨95,(.pointer (some ⟨R,0,none⟩)),rfl,by kernel_rfl,?_⟩,⟨96,(.pointer (some ⟨R,10,none⟩)),rfl,by kernel_rfl,?_⟩,ax ⟨97,rfl,?q1_4⟩,⟨98,(.string nm),rfl,by kernel_rfl,?_⟩,⟨99,(.agg #[.string nm,.int .i64 0,.int .i64 0,.int .i64 0,.int .i64 0,.int .i64 0,.int .i64 0,.string ⟨#[]⟩,.string ⟨#[]⟩,.slice none 0 0,.slice none 0 0,.int .i64 0,.int .i64 0,.bool false,.int .i64 0,.int .i64 0,.int .i64 0,.bool false]),rfl,by kernel_rfl,?_⟩,ax ⟨100,rfl,?q1_7⟩,⟨101,(.pointer (some ⟨R,0,none⟩)),rfl,by kernel_rfl,?_⟩,⟨102,(.pointer (some ⟨R,0,none⟩)),rfl,by kernel_rfl,?_⟩,⟨103,(.pointer (some ⟨R,0,none⟩)),rfl,by kernel_rfl,?_⟩,ax ⟨104,rfl,?q1_11⟩,⟨105,(.string nm),rfl,by kernel_rfl,?_⟩,ax ⟨106,rfl,?q1_13⟩,ax ⟨107,rfl,?q1_14⟩,⟨108,(.agg #[(.int .u64 (beginE g.pt nm:Int))]),rfl,by kernel_rfl,?q1_15⟩,⟨109,(.agg #[.string nm,.int .i64 0,.int .i64 0,.int .i64 0,.int .i64 0,.int .i64 0,.int .i64 0,.string ⟨#[]⟩,.string ⟨#[]⟩,.slice none 0 0,.slice none 0 0,.int .i64 0,.int .i64 0,.bool false,.int .i64 0,.int .i64 0,.int .i64 0,.bool false,(.int .u64 (beginE g.pt nm:Int)),.slice none 0 0]),rfl,by kernel_rfl,?_⟩,ax ⟨110,rfl,?q1_17⟩,ax ⟨111,rfl,?q1_18⟩,⟨112,(.pointer (some ⟨R,0,none⟩)),rfl,by kernel_rfl,?_⟩,⟨113,(.pointer (some ⟨R,10,none⟩)),rfl,by kernel_rfl,?_⟩,ay ⟨rfl,?q1_21⟩,trivial⟩
           case q1_4=>
            intro bsE vsE W hlb hlv hnd hbk h
            obtain⟨b0,b1,b2,b3,b4,b5,b6,b7,rfl⟩:=mE hlb
            obtain⟨v0,v1,v2,v3,v4,v5,v6,v7,rfl⟩:=mE hlv
            obtain rfl:b0=false:=hbk
            replace h:iy (fun W=> bj B R g vb (.slice pa g.qs.length cp) W∧Below w.heap.size w W∧W.heap[w.heap.size]? =some (.cells #[.int .i64 k,.int .i64 t,.int .i64 ea,.int .i64 eb,.string n1,.string ot] 29 (0,0))) (fun W=> ∃ vp',bj B R ({ g with qs:=g.qs++[cJ nm (beginE g.pt nm)] }) vb vp' W∧bT R g (.slice pa g.qs.length cp) ({ g with qs:=g.qs++[cJ nm (beginE g.pt nm)] }) vp' w W∧W.heap[w.heap.size]? =some (.cells #[.int .i64 k,.int .i64 t,.int .i64 ea,.int .i64 eb,.string n1,.string ot] 29 (0,0))) B (fK (cJ nm (beginE g.pt nm))) nm g.pt (beginE g.pt nm) (.slice pa g.qs.length cp) g.qs.length (flatK g.qs) false b1 b2 b3 b4 b5 b6 b7 (v0) (v1) (v2) (v3) (v4) (v5) (v6) W:=h
            clear hnd
            have HST:=aa h
            obtain rfl:=h.n0 rfl;obtain rfl:=h.n6 rfl;have c10:=(h.a rfl).1.cells.2.2.1;have cR:=(h.a rfl).1.cells.2.2.2.1
            intro K Q hK
            simp only [az,updAll,Act.put,aU,aV,aW,aX] at hK ⊢
            go_wp2_with fail
            all_goals(have hm:=h.mk0)
            all_goals(first | exact hK _ _ hm | exact hm)
           case q1_7=>
            intro bsE vsE W hlb hlv hnd hbk h
            obtain⟨b0,b1,b2,b3,b4,b5,b6,b7,rfl⟩:=mE hlb
            obtain⟨v0,v1,v2,v3,v4,v5,v6,v7,rfl⟩:=mE hlv
            obtain rfl:b1=false:=hbk
            replace h:iy (fun W=> bj B R g vb (.slice pa g.qs.length cp) W∧Below w.heap.size w W∧W.heap[w.heap.size]? =some (.cells #[.int .i64 k,.int .i64 t,.int .i64 ea,.int .i64 eb,.string n1,.string ot] 29 (0,0))) (fun W=> ∃ vp',bj B R ({ g with qs:=g.qs++[cJ nm (beginE g.pt nm)] }) vb vp' W∧bT R g (.slice pa g.qs.length cp) ({ g with qs:=g.qs++[cJ nm (beginE g.pt nm)] }) vp' w W∧W.heap[w.heap.size]? =some (.cells #[.int .i64 k,.int .i64 t,.int .i64 ea,.int .i64 eb,.string n1,.string ot] 29 (0,0))) B (fK (cJ nm (beginE g.pt nm))) nm g.pt (beginE g.pt nm) (.slice pa g.qs.length cp) g.qs.length (flatK g.qs) b0 false b2 b3 b4 b5 b6 b7 (v0) (v1) (v2) (v3) (v4) (v5) (v6) W:=h
            clear hnd
            have HST:=aa h
            obtain rfl:=h.n1 rfl;obtain rfl:=h.n4 rfl;obtain rfl:=h.n5 rfl;obtain rfl:=h.n6 rfl
            intro K Q hK
            simp only [az,updAll,Act.put,aU,aV,aW,aX] at hK ⊢
            go_wp2_with (go_at_call 40;refine(ku _).mono ?_;rintro en w9 ⟨BL,oL,rfl,L1,L2,L3,L4,hb9⟩)
            all_goals(have hm:=h.mk1 HPS.out hb9 L2 L3 L4)
            all_goals(first | exact hK _ _ hm | exact hm)
           case q1_11=>
            intro bsE vsE W hlb hlv hnd hbk h
            obtain⟨b0,b1,b2,b3,b4,b5,b6,b7,rfl⟩:=mE hlb
            obtain⟨v0,v1,v2,v3,v4,v5,v6,v7,rfl⟩:=mE hlv
            obtain rfl:b2=false:=hbk
            replace h:iy (fun W=> bj B R g vb (.slice pa g.qs.length cp) W∧Below w.heap.size w W∧W.heap[w.heap.size]? =some (.cells #[.int .i64 k,.int .i64 t,.int .i64 ea,.int .i64 eb,.string n1,.string ot] 29 (0,0))) (fun W=> ∃ vp',bj B R ({ g with qs:=g.qs++[cJ nm (beginE g.pt nm)] }) vb vp' W∧bT R g (.slice pa g.qs.length cp) ({ g with qs:=g.qs++[cJ nm (beginE g.pt nm)] }) vp' w W∧W.heap[w.heap.size]? =some (.cells #[.int .i64 k,.int .i64 t,.int .i64 ea,.int .i64 eb,.string n1,.string ot] 29 (0,0))) B (fK (cJ nm (beginE g.pt nm))) nm g.pt (beginE g.pt nm) (.slice pa g.qs.length cp) g.qs.length (flatK g.qs) b0 b1 false b3 b4 b5 b6 b7 (v0) (v1) (v2) (v3) (v4) (v5) (v6) W:=h
            clear hnd
            have HST:=aa h
            obtain rfl:=h.n2 rfl;obtain rfl:=h.n4 rfl;obtain rfl:=h.n5 rfl;obtain rfl:=h.n6 rfl;have c0:=(h.a rfl).1.cells.1;have cR:=(h.a rfl).1.cells.2.2.2.1
            intro K Q hK
            simp only [az,updAll,Act.put,aU,aV,aW,aX] at hK ⊢
            go_wp2_with fail
            all_goals(have hm:=h.mk2)
            all_goals(first | exact hK _ _ hm | exact hm)
           case q1_13=>
            intro bsE vsE W hlb hlv hnd hbk h
            obtain⟨b0,b1,b2,b3,b4,b5,b6,b7,rfl⟩:=mE hlb
            obtain⟨v0,v1,v2,v3,v4,v5,v6,v7,rfl⟩:=mE hlv
            obtain rfl:b3=false:=hbk
            replace h:iy (fun W=> bj B R g vb (.slice pa g.qs.length cp) W∧Below w.heap.size w W∧W.heap[w.heap.size]? =some (.cells #[.int .i64 k,.int .i64 t,.int .i64 ea,.int .i64 eb,.string n1,.string ot] 29 (0,0))) (fun W=> ∃ vp',bj B R ({ g with qs:=g.qs++[cJ nm (beginE g.pt nm)] }) vb vp' W∧bT R g (.slice pa g.qs.length cp) ({ g with qs:=g.qs++[cJ nm (beginE g.pt nm)] }) vp' w W∧W.heap[w.heap.size]? =some (.cells #[.int .i64 k,.int .i64 t,.int .i64 ea,.int .i64 eb,.string n1,.string ot] 29 (0,0))) B (fK (cJ nm (beginE g.pt nm))) nm g.pt (beginE g.pt nm) (.slice pa g.qs.length cp) g.qs.length (flatK g.qs) b0 b1 b2 false b4 b5 b6 b7 (v0) (v1) (v2) (v3) (v4) (v5) (v6) W:=h
            clear hnd
            have HST:=aa h
            obtain rfl:=h.n3 rfl;obtain rfl:=h.n4 rfl;obtain rfl:=h.n5 rfl;obtain rfl:=h.n6 rfl;have hconv:=run_bytes_of_string (P:=Tryz.prog) W 9 88 5 nm Tryz.underlying9 Tryz.underlying88 Tryz.underlying5;have hm:=fun cap fr c=> h.mk3 HPS.out cap fr c
            intro K Q hK
            simp only [az,updAll,Act.put,aU,aV,aW,aX] at hK ⊢
            go_wp2_with fail
            all_goals(first | exact hK _ _ (hm _ _ _) | exact hm _ _ _)
           case q1_14=>
            intro bsE vsE W hlb hlv hnd hbk h
            obtain⟨b0,b1,b2,b3,b4,b5,b6,b7,rfl⟩:=mE hlb
            obtain⟨v0,v1,v2,v3,v4,v5,v6,v7,rfl⟩:=mE hlv
            obtain rfl:b1=true:=hnd 1 (by simp)
            obtain rfl:b2=true:=hnd 2 (by simp)
            obtain rfl:b3=true:=hnd 3 (by simp)
            obtain rfl:b4=false:=hbk
            replace h:iy (fun W=> bj B R g vb (.slice pa g.qs.length cp) W∧Below w.heap.size w W∧W.heap[w.heap.size]? =some (.cells #[.int .i64 k,.int .i64 t,.int .i64 ea,.int .i64 eb,.string n1,.string ot] 29 (0,0))) (fun W=> ∃ vp',bj B R ({ g with qs:=g.qs++[cJ nm (beginE g.pt nm)] }) vb vp' W∧bT R g (.slice pa g.qs.length cp) ({ g with qs:=g.qs++[cJ nm (beginE g.pt nm)] }) vp' w W∧W.heap[w.heap.size]? =some (.cells #[.int .i64 k,.int .i64 t,.int .i64 ea,.int .i64 eb,.string n1,.string ot] 29 (0,0))) B (fK (cJ nm (beginE g.pt nm))) nm g.pt (beginE g.pt nm) (.slice pa g.qs.length cp) g.qs.length (flatK g.qs) b0 true true true false b5 b6 b7 (v0) (v1) (v2) (v3) (v4) (v5) (v6) W:=h
            clear hnd
            have HST:=aa h
            obtain rfl:=h.n4 rfl;obtain rfl:=h.n5 rfl;obtain rfl:=h.n6 rfl;obtain⟨BL,oL,e1,l1,l2,l3⟩:=h.r1 rfl rfl;subst e1;obtain rfl:=h.r2 rfl;obtain⟨p9,c9,e9,hby⟩:=h.r3 rfl rfl;subst e9
            intro K Q hK
            simp only [az,updAll,Act.put,aU,aV,aW,aX] at hK ⊢
            go_wp2_with (go_at_call 41;refine(CD.out _ _ _ _ _ l1 l2 l3 hby).mono ?_;rintro en w9 ⟨rfl,hb9⟩)
            all_goals(have hm:=h.mk4 HPS.out hb9)
            all_goals(first | exact hK _ _ hm | exact hm)
           case q1_15=>
            intro bsE vsE W hlb hlv hnd h
            obtain⟨b0,b1,b2,b3,b4,b5,b6,b7,rfl⟩:=mE hlb
            obtain⟨v0,v1,v2,v3,v4,v5,v6,v7,rfl⟩:=mE hlv
            obtain rfl:b4=true:=hnd 4 (by simp)
            replace h:iy (fun W=> bj B R g vb (.slice pa g.qs.length cp) W∧Below w.heap.size w W∧W.heap[w.heap.size]? =some (.cells #[.int .i64 k,.int .i64 t,.int .i64 ea,.int .i64 eb,.string n1,.string ot] 29 (0,0))) (fun W=> ∃ vp',bj B R ({ g with qs:=g.qs++[cJ nm (beginE g.pt nm)] }) vb vp' W∧bT R g (.slice pa g.qs.length cp) ({ g with qs:=g.qs++[cJ nm (beginE g.pt nm)] }) vp' w W∧W.heap[w.heap.size]? =some (.cells #[.int .i64 k,.int .i64 t,.int .i64 ea,.int .i64 eb,.string n1,.string ot] 29 (0,0))) B (fK (cJ nm (beginE g.pt nm))) nm g.pt (beginE g.pt nm) (.slice pa g.qs.length cp) g.qs.length (flatK g.qs) b0 b1 b2 b3 true b5 b6 b7 (v0) (v1) (v2) (v3) (v4) (v5) (v6) W:=h
            clear hnd
            have HST:=aa h
            obtain rfl:=h.r4 rfl
            intro K Q hK
            simp only [az,updAll,Act.put,aU,aV,aW,aX] at hK ⊢
            go_wp2_with (fail)
            all_goals(first | exact hK _ h | exact h)
           case q1_17=>
            intro bsE vsE W hlb hlv hnd hbk h
            obtain⟨b0,b1,b2,b3,b4,b5,b6,b7,rfl⟩:=mE hlb
            obtain⟨v0,v1,v2,v3,v4,v5,v6,v7,rfl⟩:=mE hlv
            obtain rfl:b4=true:=hnd 4 (by simp)
            obtain rfl:b5=false:=hbk
            replace h:iy (fun W=> bj B R g vb (.slice pa g.qs.length cp) W∧Below w.heap.size w W∧W.heap[w.heap.size]? =some (.cells #[.int .i64 k,.int .i64 t,.int .i64 ea,.int .i64 eb,.string n1,.string ot] 29 (0,0))) (fun W=> ∃ vp',bj B R ({ g with qs:=g.qs++[cJ nm (beginE g.pt nm)] }) vb vp' W∧bT R g (.slice pa g.qs.length cp) ({ g with qs:=g.qs++[cJ nm (beginE g.pt nm)] }) vp' w W∧W.heap[w.heap.size]? =some (.cells #[.int .i64 k,.int .i64 t,.int .i64 ea,.int .i64 eb,.string n1,.string ot] 29 (0,0))) B (fK (cJ nm (beginE g.pt nm))) nm g.pt (beginE g.pt nm) (.slice pa g.qs.length cp) g.qs.length (flatK g.qs) b0 b1 b2 b3 true false b6 b7 (v0) (v1) (v2) (v3) (v4) (v5) (v6) W:=h
            clear hnd
            have HST:=aa h
            obtain rfl:=h.n5 rfl;obtain rfl:=h.n6 rfl;have hm:=h.mk5 HPS.out
            intro K Q hK
            simp only [az,updAll,Act.put,aU,aV,aW,aX] at hK ⊢
            go_wp2_with fail
            all_goals(first | exact hK _ _ hm | exact hm)
           case q1_18=>
            intro bsE vsE W hlb hlv hnd hbk h
            obtain⟨b0,b1,b2,b3,b4,b5,b6,b7,rfl⟩:=mE hlb
            obtain⟨v0,v1,v2,v3,v4,v5,v6,v7,rfl⟩:=mE hlv
            obtain rfl:b0=true:=hnd 0 (by simp)
            obtain rfl:b5=true:=hnd 5 (by simp)
            obtain rfl:b6=false:=hbk
            replace h:iy (fun W=> bj B R g vb (.slice pa g.qs.length cp) W∧Below w.heap.size w W∧W.heap[w.heap.size]? =some (.cells #[.int .i64 k,.int .i64 t,.int .i64 ea,.int .i64 eb,.string n1,.string ot] 29 (0,0))) (fun W=> ∃ vp',bj B R ({ g with qs:=g.qs++[cJ nm (beginE g.pt nm)] }) vb vp' W∧bT R g (.slice pa g.qs.length cp) ({ g with qs:=g.qs++[cJ nm (beginE g.pt nm)] }) vp' w W∧W.heap[w.heap.size]? =some (.cells #[.int .i64 k,.int .i64 t,.int .i64 ea,.int .i64 eb,.string n1,.string ot] 29 (0,0))) B (fK (cJ nm (beginE g.pt nm))) nm g.pt (beginE g.pt nm) (.slice pa g.qs.length cp) g.qs.length (flatK g.qs) true b1 b2 b3 b4 true false b7 (v0) (v1) (v2) (v3) (v4) (v5) (v6) W:=h
            clear hnd
            have HST:=aa h
            obtain rfl:=h.n6 rfl
            intro K Q hK
            simp only [az,updAll,Act.put,aU,aV,aW,aX] at hK ⊢
            exact h.app (fun W hW=> hW.1.row) HQL.out (eT _) (xg _ _) (.tmp 97) (.tmp 110) rfl rfl rfl hK
           case q1_21=>
            intro bsE vsE W hlb hlv hnd hbk h
            obtain⟨b0,b1,b2,b3,b4,b5,b6,b7,rfl⟩:=mE hlb
            obtain⟨v0,v1,v2,v3,v4,v5,v6,v7,rfl⟩:=mE hlv
            obtain rfl:b6=true:=hnd 6 (by simp)
            obtain rfl:b7=false:=hbk
            replace h:iy (fun W=> bj B R g vb (.slice pa g.qs.length cp) W∧Below w.heap.size w W∧W.heap[w.heap.size]? =some (.cells #[.int .i64 k,.int .i64 t,.int .i64 ea,.int .i64 eb,.string n1,.string ot] 29 (0,0))) (fun W=> ∃ vp',bj B R ({ g with qs:=g.qs++[cJ nm (beginE g.pt nm)] }) vb vp' W∧bT R g (.slice pa g.qs.length cp) ({ g with qs:=g.qs++[cJ nm (beginE g.pt nm)] }) vp' w W∧W.heap[w.heap.size]? =some (.cells #[.int .i64 k,.int .i64 t,.int .i64 ea,.int .i64 eb,.string n1,.string ot] 29 (0,0))) B (fK (cJ nm (beginE g.pt nm))) nm g.pt (beginE g.pt nm) (.slice pa g.qs.length cp) g.qs.length (flatK g.qs) b0 b1 b2 b3 b4 b5 true false (v0) (v1) (v2) (v3) (v4) (v5) (v6) W:=h
            clear hnd
            have HST:=aa h
            obtain⟨Wb,⟨p1,pB,pE⟩,p2,p3,p4⟩:=h.m rfl rfl;obtain⟨a9,c9,e9⟩:=aP p4;subst e9;obtain⟨c,f,lB,r1,r2,r3⟩:=sr p1 pB pE p2 p3 p4;have hN0:iy (fun W=> bj B R g vb (.slice pa g.qs.length cp) W∧Below w.heap.size w W∧W.heap[w.heap.size]? =some (.cells #[.int .i64 k,.int .i64 t,.int .i64 ea,.int .i64 eb,.string n1,.string ot] 29 (0,0))) (fun W=> ∃ vp',bj B R ({ g with qs:=g.qs++[cJ nm (beginE g.pt nm)] }) vb vp' W∧bT R g (.slice pa g.qs.length cp) ({ g with qs:=g.qs++[cJ nm (beginE g.pt nm)] }) vp' w W∧W.heap[w.heap.size]? =some (.cells #[.int .i64 k,.int .i64 t,.int .i64 ea,.int .i64 eb,.string n1,.string ot] 29 (0,0))) B (fK (cJ nm (beginE g.pt nm))) nm g.pt (beginE g.pt nm) (.slice pa g.qs.length cp) g.qs.length (flatK g.qs) b0 b1 b2 b3 b4 b5 true true (v0) (v1) (v2) (v3) (v4) (v5) ((.slice a9 (g.qs.length+1) c9)) (W.setCell ⟨R,10,none⟩ (.slice a9 (g.qs.length+1) c9)):=⟨(fun e=> by cases e),(fun _ e=> by cases e),(fun _=> ⟨_,r1,r2,r3⟩),h.r0,(fun _ e2=> by have e3:=h.n4 e2;have e4:=h.n5 e3;cases e4),h.r2,(fun _ e2=> by have e3:=h.n4 e2;have e4:=h.n5 e3;cases e4),h.r4,(fun _ e=> by cases e),h.n0,h.n1,h.n2,h.n3,h.n4,h.n5,(fun e=> by cases e),by simpa using h.hb⟩;clear p1 pB pE p2 p3 p4 r1 r2 r3
            intro K Q hK
            simp only [az,updAll,Act.put,aU,aV,aW,aX] at hK ⊢
            go_wp2_with fail
            all_goals(first | exact hK _ hN0 | exact hN0)
           all_goals
            intro bsE vsE W hlb hlv hnd h
            obtain⟨b0,b1,b2,b3,b4,b5,b6,b7,rfl⟩:=mE hlb
            obtain⟨v0,v1,v2,v3,v4,v5,v6,v7,rfl⟩:=mE hlv
            replace h:iy (fun W=> bj B R g vb (.slice pa g.qs.length cp) W∧Below w.heap.size w W∧W.heap[w.heap.size]? =some (.cells #[.int .i64 k,.int .i64 t,.int .i64 ea,.int .i64 eb,.string n1,.string ot] 29 (0,0))) (fun W=> ∃ vp',bj B R ({ g with qs:=g.qs++[cJ nm (beginE g.pt nm)] }) vb vp' W∧bT R g (.slice pa g.qs.length cp) ({ g with qs:=g.qs++[cJ nm (beginE g.pt nm)] }) vp' w W∧W.heap[w.heap.size]? =some (.cells #[.int .i64 k,.int .i64 t,.int .i64 ea,.int .i64 eb,.string n1,.string ot] 29 (0,0))) B (fK (cJ nm (beginE g.pt nm))) nm g.pt (beginE g.pt nm) (.slice pa g.qs.length cp) g.qs.length (flatK g.qs) b0 b1 b2 b3 b4 b5 b6 b7 (v0) (v1) (v2) (v3) (v4) (v5) (v6) W:=h
            clear hnd
            have HST:=aa h
            skip
            intro K Q hK
            simp only [az,updAll,Act.put,aU,aV,aW,aX] at hK ⊢
            go_wp2_with (fail)
            all_goals(first | exact hK _ h | exact h)
          case done=>
           intro vsE W hlv h
           obtain⟨v0,v1,v2,v3,v4,v5,v6,v7,rfl⟩:=mE hlv
           replace h:iy (fun W=> bj B R g vb (.slice pa g.qs.length cp) W∧Below w.heap.size w W∧W.heap[w.heap.size]? =some (.cells #[.int .i64 k,.int .i64 t,.int .i64 ea,.int .i64 eb,.string n1,.string ot] 29 (0,0))) (fun W=> ∃ vp',bj B R ({ g with qs:=g.qs++[cJ nm (beginE g.pt nm)] }) vb vp' W∧bT R g (.slice pa g.qs.length cp) ({ g with qs:=g.qs++[cJ nm (beginE g.pt nm)] }) vp' w W∧W.heap[w.heap.size]? =some (.cells #[.int .i64 k,.int .i64 t,.int .i64 ea,.int .i64 eb,.string n1,.string ot] 29 (0,0))) B (fK (cJ nm (beginE g.pt nm))) nm g.pt (beginE g.pt nm) (.slice pa g.qs.length cp) g.qs.length (flatK g.qs) true true true true true true true true (v0) (v1) (v2) (v3) (v4) (v5) (v6) W:=h
           have HST:=aa h
           have HZ:=aa (h.z rfl)
           clear h HST
           simp only [az,updAll,Act.put,aU,aV,aW,aX]
           obtain⟨vp',hr2,hM2,hE2⟩:=HZ.out
           have hnb:n < a.bks.length:=by have:=HHH.out.1;omega
           have hus:a.used.getD n 0 < (a.bks.getD n (0,[])).2.length:=by have h1:=dX hnb;have h2:=HL6.out;have h3:=HLL.out;omega
           obtain⟨PB2,cp2,M,evp2,hM,hCE⟩:=su H.out HO.out HHH.out.2.1 (by have:=HHH.out.2.2.2;omega) hnb hus (k,t,ea,eb,n1,ot) HK1.out HHH.out.2.2.1 hr2
           subst evp2
           have c10:=hr2.cells.2.2.1
           have cR:=hr2.cells.2.2.2.1
           have hw:IntKind.i64.wrap ((M:Int) - 1)=(g.qs.length:Int):=by have h1:=HQL.out;rw [hM];rw [show((g.qs.length+1:Nat):Int) - 1=(g.qs.length:Int) by omega];exact cC _ ⟨by omega,by omega⟩
           have g0:(0:Int)≤g.qs.length:=by omega
           have g1:(g.qs.length:Int) < M:=by omega
           have HE2:=aa hE2
           have HM2:=aa hM2
           have CE:=aa hCE
           obtain⟨x0,x1,x2,x3,x4,x5⟩:=bG hE2;have xl:=ak hE2
           clear HZ hr2 hM2 hE2 hCE hM hnb hus
           go_upto_region 23 with fail
           go_quiet (fail)
           go_wp2_with (go_at_call 65;refine(CE.out _ (by repeat' (first | exact Below.refl _ _ | assumption | apply aI | apply bg | apply aK | (refine cB ?_ ?_ _) | (refine ai ?_ (by assumption)) | omega | (simp <;> omega)))).mono ?_;rintro e w1 ⟨rfl,hN⟩;have HN:=aa (gh.pre (w:=W) (by repeat' (first | exact Below.refl _ _ | assumption | apply aI | apply bg | apply aK | (refine cB ?_ ?_ _) | (refine ai ?_ (by assumption)) | omega | (simp <;> omega))) hN);clear hN)
           exact aH (v:=.int .i64 0) rfl rfl rfl ⟨by rw [HMM.out],by rw [HMM.out];exact HN.out.after HM2.out⟩
      ·have z1:(k==1)=false:=by simpa using k1
       cases hp:a.ps[findA nm a]? with
       | none=>
        have h4:¬ findA nm a < a.ps.length:=by have:=List.getElem?_eq_none_iff.1 hp;omega
        rw [jD (by have:=HLN.out;omega)] at CF
        have HMM:=aa (show bi a (n:Int) nm (k,t,ea,eb,n1,ot)=(5,a)from by rw [gP (e:=(k,t,ea,eb,n1,ot)) hb ⟨h2,(show eC (k,t,ea,eb,n1,ot)=true from h3),(show k≠5 from k5),(show k≠6 from k6)⟩ k1,hp])
        generalize findA nm a=i at*
        clear hb h2 h3 h4 hp k1 k5 k6
        go_wp2_with (go_at_call 57;refine(CF.out _ HB.out).mono ?_;rintro e w1 ⟨rfl,hbn⟩;have HX9:=aa (an HX.out hbn);have HB9:=aa (ai HB.out hbn);clear HX HB hbn;clear x0 x1 x2 x3 x4 x5 xl c10 cR;have HX:=HX9;have HB:=HB9;clear HX9 HB9;obtain⟨x0,x1,x2,x3,x4,x5⟩:=bG HX.out;have xl:=ak HX.out;have c10:=ag HC.out.1 HB.out;have cR:=ar HC.out.2 HB.out.size)
        exact aH (v:=.int .i64 5) rfl rfl rfl ⟨by rw [HMM.out],by rw [HMM.out];exact H.out.stay HB.out⟩
       | some p=>
        have h4:findA nm a < a.ps.length:=(aB hp).1
        obtain⟨PB,cp2,cur,evp,hPB,hbP,-⟩:=H.out.ra.packs (by rintro c;have h9:=HLN.out;rw [c] at h9;simp at h9;omega)
        cases evp
        rw [eM (by have:=HLN.out;omega)] at CF
        obtain⟨q,hq,e1,e2,e3,e4⟩:=H.out.get hp
        obtain⟨pv,cv,hve⟩:=H.out.ra.veS (aJ hq)
        have hlv:=H.out.ra.life rfl hq
        have hcv:=hlv.2.2
        rw [hve,e2] at hcv
        have HCV:=aa (ba hcv hlv.1.lt)
        have hlb:=HO.out.toji.life (aJ hp)
        have CC:∀ W,Below w.heap.size w W→∀ s:aC W,Calls Tryz.prog 43 #[.pointer (some ⟨PB,findA nm a*20,none⟩),.agg #[.int .i64 k,.int .i64 t,.int .i64 ea,.int .i64 eb,.string n1,.string ot]] s.1 fun e w'=> e=.returned (.bool (cg p.1 (lf p) (k,t,ea,eb,n1,ot)))∧∃ t:aC W,w'=t.1:=fun W hW s=> by
         have h9:=dy s (jO ((hlv.1.step hW).step s.2) (k,t,ea,eb,n1,ot) (jv h3).1.k (by rw [e3];have:=hlb.2.1;omega) (by rw [e3];have:=hlb.2.2;omega))
         rw [e1,e3] at h9
         exact h9
        have CE0:cg p.1 (lf p) (k,t,ea,eb,n1,ot)=true→¬ leftA a (n:Int) < 1→Hid (∀ W,Below w.heap.size w W→Calls Tryz.prog 65 #[.pointer (some ⟨R,0,none⟩),.int .i64 (n:Int),.pointer (some ⟨PB,findA nm a*20,none⟩),.agg #[.int .i64 k,.int .i64 t,.int .i64 ea,.int .i64 eb,.string n1,.string ot]] W fun en w'=> en=.returned (.tuple #[])∧gh B R vb (putA a n (findA nm a) (k,t,ea,eb,n1,ot)) g (.slice (some ⟨PB,0,none⟩) g.qs.length cp) W w'):=fun h5 h8 W hW=> by
         have hnb:n < a.bks.length:=by omega
         have hla:=dX hnb
         obtain⟨PB9,cp9,e9,c9⟩:=jC (H.out.step hW) HO.out.toji hp hnb (by omega) (e:=(k,t,ea,eb,n1,ot)) h3 h5
         cases e9
         exact c9
        have hmn:bi a (n:Int) nm (k,t,ea,eb,n1,ot)=if cg p.1 (lf p) (k,t,ea,eb,n1,ot)=false then(10,a)else if 500≤p.2.length then(11,a)else if leftA a (n:Int) < 1 then(4,a)else(0,putA a n (findA nm a) (k,t,ea,eb,n1,ot)):=by rw [gP (e:=(k,t,ea,eb,n1,ot)) hb ⟨h2,(show eC (k,t,ea,eb,n1,ot)=true from h3),(show k≠5 from k5),(show k≠6 from k6)⟩ k1,hp,Int.toNat_natCast]
        have HMN:=aa hmn
        have HCE:=aa CE0
        clear hmn CE0
        generalize putA a n (findA nm a) (k,t,ea,eb,n1,ot)=a2 at*
        generalize hcn:cg p.1 (lf p) (k,t,ea,eb,n1,ot)=can at*
        generalize findA nm a=i at*
        generalize p.2.length=L2 at*
        generalize leftA a (n:Int)=L at*
        clear hp hq e1 e2 e3 e4 hve hlv hcv hlb hbP hPB hcn
        clear hb h2 h3 h4 k1 k5 k6
        go_upto_region 15 with(first | (go_at_call 57;refine(CF.out _ HB.out).mono ?_;rintro e w1 ⟨rfl,hbn⟩;have HX9:=aa (an HX.out hbn);have HB9:=aa (ai HB.out hbn);clear HX HB hbn;clear x0 x1 x2 x3 x4 x5 xl c10 cR;have HX:=HX9;have HB:=HB9;clear HX9 HB9;obtain⟨x0,x1,x2,x3,x4,x5⟩:=bG HX.out;have xl:=ak HX.out;have c10:=ag HC.out.1 HB.out;have cR:=ar HC.out.2 HB.out.size))
        have u0:∀ s:aC w1,s.1.cell? ⟨w.heap.size,0,none⟩=some (.int .i64 k):=fun s=> ag (ah HX.out rfl) s.2
        have u1:∀ s:aC w1,s.1.cell? ⟨w.heap.size,1,none⟩=some (.int .i64 t):=fun s=> ag (ah HX.out rfl) s.2
        have u2:∀ s:aC w1,s.1.cell? ⟨w.heap.size,2,none⟩=some (.int .i64 ea):=fun s=> ag (ah HX.out rfl) s.2
        have u3:∀ s:aC w1,s.1.cell? ⟨w.heap.size,3,none⟩=some (.int .i64 eb):=fun s=> ag (ah HX.out rfl) s.2
        have u4:∀ s:aC w1,s.1.cell? ⟨w.heap.size,4,none⟩=some (.string n1):=fun s=> ag (ah HX.out rfl) s.2
        have u5:∀ s:aC w1,s.1.cell? ⟨w.heap.size,5,none⟩=some (.string ot):=fun s=> ag (ah HX.out rfl) s.2
        have ul:∀ s:aC w1,w.heap.size < s.1.heap.size:=fun s=> ar (ak HX.out) s.2.size
        have CX:=aa (CC _ HB.out)
        clear CC
        cases can with
        | false=>
         refine aF (by kernel_rfl) (by kernel_rfl) ?_
         repeat(first | (refine WQ.skip rfl rfl rfl rfl ?_;simp only [Act.put,aU,aV,aW,aX]) | ((first | (apply WQ.val;(exact rfl)) | (apply WQ.valg;(exact rfl);(exact rfl);(exact rfl)));(intro w9 hw9;obtain⟨s9,rfl⟩:=hw9;simp [go_sem,u0,u1,u2,u3,u4,u5,ul];first | done | exact rfl | (with_reducible exact CX.out s9));simp only [Act.put,aU,aV,aW,aX]))
         refine WQ.fin fun W4 hbn=> ?_
         have HX9:=aa (an HX.out hbn);have HB9:=aa (ai HB.out hbn);clear HX HB hbn;clear x0 x1 x2 x3 x4 x5 xl c10 cR;have HX:=HX9;have HB:=HB9;clear HX9 HB9;obtain⟨x0,x1,x2,x3,x4,x5⟩:=bG HX.out;have xl:=ak HX.out;have c10:=ag HC.out.1 HB.out;have cR:=ar HC.out.2 HB.out.size
         clear u0 u1 u2 u3 u4 u5 ul
         have cv:=ag HCV.out.1 HB.out
         have lv:=ar HCV.out.2 HB.out.size
         have hm:=HMN.out
         rw [aG rfl] at hm
         have HMM:Hid (bi a (n:Int) nm (k,t,ea,eb,n1,ot)=(10,a)):=hm
         clear hm HMN HCE
         go_wp2_with fail
         exact aH (v:=.int .i64 10) rfl rfl rfl ⟨by rw [HMM.out],by rw [HMM.out];exact H.out.stay HB.out⟩
        | true=>
         refine aF (by kernel_rfl) (by kernel_rfl) ?_
         repeat(first | (refine WQ.skip rfl rfl rfl rfl ?_;simp only [Act.put,aU,aV,aW,aX]) | ((first | (apply WQ.val;(exact rfl)) | (apply WQ.valg;(exact rfl);(exact rfl);(exact rfl)));(intro w9 hw9;obtain⟨s9,rfl⟩:=hw9;simp [go_sem,u0,u1,u2,u3,u4,u5,ul];first | done | exact rfl | (with_reducible exact CX.out s9));simp only [Act.put,aU,aV,aW,aX]))
         refine WQ.fin fun W4 hbn=> ?_
         have HX9:=aa (an HX.out hbn);have HB9:=aa (ai HB.out hbn);clear HX HB hbn;clear x0 x1 x2 x3 x4 x5 xl c10 cR;have HX:=HX9;have HB:=HB9;clear HX9 HB9;obtain⟨x0,x1,x2,x3,x4,x5⟩:=bG HX.out;have xl:=ak HX.out;have c10:=ag HC.out.1 HB.out;have cR:=ar HC.out.2 HB.out.size
         clear u0 u1 u2 u3 u4 u5 ul
         have cv:=ag HCV.out.1 HB.out
         have lv:=ar HCV.out.2 HB.out.size
         by_cases h6:500≤L2
         ·have h7:(500:Int)≤L2:=by omega
          have hm:=HMN.out
          rw [aA (show ¬ (true=false)from by decide),aG h6] at hm
          have HMM:Hid (bi a (n:Int) nm (k,t,ea,eb,n1,ot)=(11,a)):=hm
          clear hm HMN HCE
          clear h6
          go_wp2_with fail
          exact aH (v:=.int .i64 11) rfl rfl rfl ⟨by rw [HMM.out],by rw [HMM.out];exact H.out.stay HB.out⟩
         ·have h7:¬ (500:Int)≤L2:=by omega
          by_cases h8:L < 1
          ·skip
           have hm:=HMN.out
           rw [aA (show ¬ (true=false)from by decide),aA h6,aG h8] at hm
           have HMM:Hid (bi a (n:Int) nm (k,t,ea,eb,n1,ot)=(4,a)):=hm
           clear hm HMN HCE
           clear h6
           go_wp2_with (go_at_call 17;refine(CL.out _ HB.out).mono ?_;rintro e w1 ⟨rfl,hbn⟩;have HX9:=aa (an HX.out hbn);have HB9:=aa (ai HB.out hbn);clear HX HB hbn;clear x0 x1 x2 x3 x4 x5 xl c10 cR;have HX:=HX9;have HB:=HB9;clear HX9 HB9;obtain⟨x0,x1,x2,x3,x4,x5⟩:=bG HX.out;have xl:=ak HX.out;have c10:=ag HC.out.1 HB.out;have cR:=ar HC.out.2 HB.out.size)
           exact aH (v:=.int .i64 4) rfl rfl rfl ⟨by rw [HMM.out],by rw [HMM.out];exact H.out.stay HB.out⟩
          ·skip
           have CE:=HCE.out rfl (by omega)
           have hm:=HMN.out
           rw [aA (show ¬ (true=false)from by decide),aA h6,aA h8] at hm
           have HMM:Hid (bi a (n:Int) nm (k,t,ea,eb,n1,ot)=(0,a2)):=hm
           clear hm HMN HCE
           clear h6
           go_wp2_with (first | (go_at_call 17;refine(CL.out _ HB.out).mono ?_;rintro e w1 ⟨rfl,hbn⟩;have HX9:=aa (an HX.out hbn);have HB9:=aa (ai HB.out hbn);clear HX HB hbn;clear x0 x1 x2 x3 x4 x5 xl c10 cR;have HX:=HX9;have HB:=HB9;clear HX9 HB9;obtain⟨x0,x1,x2,x3,x4,x5⟩:=bG HX.out;have xl:=ak HX.out;have c10:=ag HC.out.1 HB.out;have cR:=ar HC.out.2 HB.out.size) | (go_at_call 65;refine(CE.out _ HB.out).mono ?_;rintro e w1 ⟨rfl,hN⟩;have HN:=aa (hN.pre HB.out);clear hN))
           exact aH (v:=.int .i64 0) rfl rfl rfl ⟨by rw [HMM.out],by rw [HMM.out];exact HN.out⟩
theorem sw {B R:Nat} {a:RegA} {g:RegS} {vb vp:Value} {w:World} (h:bW B R vb a g vp w)(ho:dc a)(hG:dn w)(b:Int)(nm:ByteArray)(e:bQ)(hs:nm.size≤1000000∧e.2.2.2.2.1.size≤1000000∧e.2.2.2.2.2.size≤1000000):
  Calls Tryz.prog 72 #[.pointer (some ⟨R,0,none⟩),.int .i64 b,.string nm,kZ e] w fun en w'=> en=.returned (.int .i64 (bi a b nm e).1)∧gh B R vb (bi a b nm e).2 g vp w w':=by
 obtain⟨k,t,ea,eb,n1,ot⟩:=e
 exact xh h ho hG b nm k t ea eb n1 ot hs
end
section
open Sx Go.RowKit Mr
def laysSlE041_f58_ren:Go.Shelf.Ren:=⟨fun | 41=> 58 | n=> n,fun | 22=> 24 | 23=> 31 | 4=> 4 | n=> n,fun | n=> n⟩
theorem fO:Go.Proofs.SlLaysE0.n41 Tryz.prog laysSlE041_f58_ren:={
 mixed:=by kernel_rfl
 f41:=⟨Tryz.f58.name,by decide,Tryz.func58.trans (congrArg some (by kernel_rfl))⟩
 t4:=Tryz.underlying4
 a4:=Tryz.isAgg4
 z4:=Tryz.sizeOf4
 v4:=Tryz.zeroValue4
 t22:=Tryz.underlying24
 a22:=Tryz.isAgg24
 z22:=Tryz.sizeOf24
 v22:=Tryz.zeroValue24 }
theorem eD {W:World} {B E sz n b c:Nat} {a:Option Addr} {xs:List Value} (h:W.ownsRow B E sz (.slice a n c) n xs)(hn:n≠0):∃ b,a=some ⟨b,0,none⟩∧b < W.heap.size∧∀ (j:Nat) (u:Value),xs[j]? =some u→W.cell? ⟨b,j,none⟩=some u:=by
 obtain⟨-,h2⟩:=h
 rcases h2 with⟨e1,e2⟩ | ⟨g,cap,cur,q1,q2,q3,q4,q5,q6,q7⟩
 ·exact absurd e2 hn
 ·injection q1 with e1 e2 e3
  subst e1
  refine⟨g,rfl,ak q3,fun j u hj=> ah q3 ?_⟩
  have hjl:=(aB hj).1
  rw [← q7] at hj
  rw [← Array.getElem?_toList]
  rw [List.getElem?_take] at hj
  split at hj
  ·exact hj
  ·cases hj
theorem dE {W:World} {B B' E sz n:Nat} {v:Value} {xs:List Value} (h:W.ownsRow B' E sz v n xs)(hB:B≤B'):W.ownsRow B E sz v n xs:=by
 obtain⟨h1,h2⟩:=h
 refine⟨h1,?_⟩
 rcases h2 with h2 | ⟨g,cap,cur,q1,q2,q3⟩
 ·exact ax h2
 ·exact ay ⟨g,cap,cur,q1,Nat.le_trans hB q2,q3⟩
theorem sx(es:List bR):∀ u∈bK es,u.oneCell'=true:=by
 intro u hu
 unfold bK at hu
 obtain⟨y,-,hy⟩:=List.mem_flatMap.1 hu
 exact kH y u hy
theorem lW {v:Value} {es:List bR} {w:World} {B:Nat} (h:w.ownsRow B 31 10 v es.length (bK es))(hl:es.length≤1000):Calls Tryz.prog 58 #[v] w fun e w'=> ∃ v',e=.returned v'∧w'.ownsRow w.heap.size 31 10 v' es.length (bK es)∧Below w.heap.size w w':=by
 obtain⟨i0,hi,hz0,hz1,hz2⟩:=info_parts jY
 obtain⟨a,c,rfl⟩:=aP h
 by_cases hn:es.length=0
 ·obtain⟨-,h2⟩:=h
  have hnil:es=[]:=eF hn
  subst hnil
  rcases h2 with⟨e1,-⟩ | ⟨g,cap,cur,q1,-⟩
  ·injection e1 with e2 e3 e4
   subst e2
   refine(AnyE.slices_Clone_nil fO 0 c w).mono fun e w' q=> ?_
   obtain⟨rfl,rfl⟩:=q
   exact⟨_,rfl,⟨rfl,ax ⟨rfl,rfl⟩⟩,Below.refl _ _⟩
  ·injection q1 with e1 e2 e3
   subst e1
   refine(AnyE.slices_Clone fO i0 _ 10 96 hi hz0 hz1 hz2 rfl (by decide) (fun w=> Tryz.sizeOf31 w) g 0 0 c [] w rfl (Nat.zero_le _) (by omega) (fun j u hu=> by cases hu) (fun u hu=> by cases hu)).mono fun e w' q=> ?_
   obtain⟨v',rfl,q1,-,q2⟩:=q
   exact⟨v',rfl,q1,q2⟩
 ·obtain⟨b,rfl,-,hc⟩:=eD (b:=0) (c:=c) h hn
  refine(AnyE.slices_Clone fO i0 _ 10 96 hi hz0 hz1 hz2 rfl (by decide) (fun w=> Tryz.sizeOf31 w) b 0 es.length c (bK es) w (jc es) (by unfold maxLen;omega) (by omega) (fun j u hu=> by rw [Nat.zero_add];exact hc j u hu) (sx es)).mono fun e w' q=> ?_
  obtain⟨v',rfl,q1,-,q2⟩:=q
  exact⟨v',rfl,q1,q2⟩
theorem qa {B R:Nat} {a:RegA} {g:RegS} {vb vp:Value} {w:World} (h:bW B R vb a g vp w)(ho:dc a)(nm:ByteArray)(hf:¬ findA nm a < a.ps.length):Calls Tryz.prog 16 #[.pointer (some ⟨R,0,none⟩),.string nm] w fun en w'=> en=.returned (.tuple #[.slice none 0 0,.int .i64 5])∧Below w.heap.size w w':=by
 have hok:=h.ok ho.toji
 have hlen:=h.len
 have hnp:=ho.np
 have CV:=aa (fun W (hW:Below w.heap.size w W)=> dm (h.ra.step hW) hok.pt.1)
 have HB:=aa (Below.refl w.heap.size w)
 obtain⟨pa,cp,hvp⟩:=h.ra.vpS
 subst hvp
 have CF:=aa (fun W (hW:Below w.heap.size w W)=> fM (h.ra.step hW) nm (by omega))
 rw [h.find,jD (by omega)] at CF
 clear h ho hok hlen hnp hf
 go_enter Tryz.func16,Tryz.ntmps16
 go_wp2_with ((first | (go_at_call 56;refine(CV.out _ HB.out).mono ?_) | (go_at_call 57;refine(CF.out _ HB.out).mono ?_));rintro e w1 ⟨rfl,hbn⟩;have HB9:=aa (ai HB.out hbn);clear HB hbn;have HB:=HB9;clear HB9)
 exact dP (v:=.tuple #[.slice none 0 0,.int .i64 5]) rfl rfl rfl ⟨rfl,HB.out⟩
theorem oY {B R:Nat} {a:RegA} {g:RegS} {vb vp:Value} {w:World} (h:bW B R vb a g vp w)(ho:dc a)(nm:ByteArray)(p:ByteArray×List bR)(hp:a.ps[findA nm a]? =some p):Calls Tryz.prog 16 #[.pointer (some ⟨R,0,none⟩),.string nm] w fun en w'=> ∃ v',en=.returned (.tuple #[v',.int .i64 0])∧w'.ownsRow w.heap.size 31 10 v' p.2.length (bK p.2)∧Below w.heap.size w w':=by
 have hok:=h.ok ho.toji
 have hlen:=h.len
 have hnp:=ho.np
 have CV:=aa (fun W (hW:Below w.heap.size w W)=> dm (h.ra.step hW) hok.pt.1)
 have HB:=aa (Below.refl w.heap.size w)
 have hf:findA nm a < a.ps.length:=(aB hp).1
 obtain⟨PB,cp,cur,hvp,hPB,hbP,-⟩:=h.ra.packs (by rintro c;rw [c] at hlen;simp at hlen;omega)
 subst hvp
 have CF:=aa (fun W (hW:Below w.heap.size w W)=> fM (h.ra.step hW) nm (by omega))
 rw [h.find,eM (by omega)] at CF
 obtain⟨q,hq,e1,e2,e3,e4⟩:=h.get hp
 have hqm:=aJ hq
 have hlv:=h.ra.life rfl hq
 obtain⟨pv,cv,hve⟩:=h.ra.veS hqm
 have hcv:=hlv.2.2
 rw [hve,e2] at hcv
 have HCV:=aa (ba hcv hlv.1.lt)
 have hes:=h.ra.es q hqm
 rw [hve,e2] at hes
 have hpl:=(ho.p p (aJ hp)).1
 have CC:=aa (fun W (hW:Below w.heap.size w W)=> lW (aD hes hW) (by omega))
 generalize findA nm a=i at*
 clear h ho hok hlen hnp hf hp hq e1 e2 e3 e4 hqm hlv hve hcv hes hpl hPB hbP
 go_enter Tryz.func16,Tryz.ntmps16
 go_wp2_with (first | (go_at_call 56;refine(CV.out _ HB.out).mono ?_;rintro e w1 ⟨rfl,hbn⟩;have HB9:=aa (ai HB.out hbn);clear HB hbn;have HB:=HB9;clear HB9) | (go_at_call 57;refine(CF.out _ HB.out).mono ?_;rintro e w1 ⟨rfl,hbn⟩;have HB9:=aa (ai HB.out hbn);clear HB hbn;have HB:=HB9;clear HB9;have cv:=ag HCV.out.1 HB.out;have lv:=ar HCV.out.2 HB.out.size) | (go_at_call 58;refine(CC.out _ HB.out).mono ?_;rintro e w1 ⟨v',rfl,hO,hbn⟩;have HO:=aa (dE hO HB.out.size);have HB9:=aa (ai HB.out hbn);clear HB hbn hO;have HB:=HB9;clear HB9;obtain⟨av,cw,ev⟩:=aP HO.out;subst ev))
 exact bc (v:=.tuple #[.slice av p.2.length cw,.int .i64 0]) (by simp only [results,Tryz.results16];go_simp) rfl ⟨_,rfl,HO.out,HB.out⟩
theorem sy {B R:Nat} {a:RegA} {g:RegS} {vb vp:Value} {w:World} (h:bW B R vb a g vp w)(ho:dc a)(hG:dn w)(m:ByteArray)(hm:m.size≤1000000)(h2:modB m=false):Calls Tryz.prog 23 #[.pointer (some ⟨R,0,none⟩),.string m] w fun en w'=> en=.returned (.tuple #[.string ⟨#[]⟩,.int .i64 2])∧Below w.heap.size w w':=by
 have hok:=h.ok ho.toji
 have hlen:=h.len
 have hnp:=ho.np
 have CV:=aa (fun W (hW:Below w.heap.size w W)=> dm (h.ra.step hW) hok.pt.1)
 have HB:=aa (Below.refl w.heap.size w)
 have CM:=aa (fun W (hW:Below w.heap.size w W)=> ef m W hm (dV hG hW))
 have hms:∀ q∈g.qs,q.life.ms.length≤1000000:=fun q hq=> by
  obtain⟨i,hi⟩:=List.getElem?_of_mem hq
  have h9:=(ho.toji.life (aJ (h.put hi))).2.1
  rw [(h.lf q hq).1]
  exact Nat.le_trans h9 (by omega)
 rw [h2] at CM
 generalize(cE m).1=o1 at*
 clear h ho hok hlen hnp h2 hms hG
 go_enter Tryz.func23,Tryz.ntmps23
 go_wp2_with ((first | (go_at_call 56;refine(CV.out _ HB.out).mono ?_) | (go_at_call 67;refine(CM.out _ HB.out).mono ?_));rintro e w1 ⟨rfl,hbn⟩;have HB9:=aa (ai HB.out hbn);clear HB hbn;have HB:=HB9;clear HB9)
 exact bc (v:=.tuple #[.string ⟨#[]⟩,.int .i64 2]) (by simp only [results,Tryz.results23];go_simp) rfl ⟨rfl,HB.out⟩
theorem vj {B R:Nat} {a:RegA} {g:RegS} {vb vp:Value} {w:World} (h:bW B R vb a g vp w)(ho:dc a)(hG:dn w)(m:ByteArray)(hm:m.size≤1000000)(h2:modB m=true)(hf:¬ whereA m a < a.ps.length):Calls Tryz.prog 23 #[.pointer (some ⟨R,0,none⟩),.string m] w fun en w'=> en=.returned (.tuple #[.string ⟨#[]⟩,.int .i64 5])∧Below w.heap.size w w':=by
 have hok:=h.ok ho.toji
 have hlen:=h.len
 have hnp:=ho.np
 have CV:=aa (fun W (hW:Below w.heap.size w W)=> dm (h.ra.step hW) hok.pt.1)
 have HB:=aa (Below.refl w.heap.size w)
 have CM:=aa (fun W (hW:Below w.heap.size w W)=> ef m W hm (dV hG hW))
 have hms:∀ q∈g.qs,q.life.ms.length≤1000000:=fun q hq=> by
  obtain⟨i,hi⟩:=List.getElem?_of_mem hq
  have h9:=(ho.toji.life (aJ (h.put hi))).2.1
  rw [(h.lf q hq).1]
  exact Nat.le_trans h9 (by omega)
 rw [h2] at CM
 obtain⟨pa,cp,hvp⟩:=h.ra.vpS
 subst hvp
 have CF:=aa (fun W (hW:Below w.heap.size w W)=> kF (h.ra.step hW) m (by omega) hms)
 rw [h.whr,jD (by omega)] at CF
 generalize(cE m).1=o1 at*
 clear h ho hok hlen hnp h2 hms hG hf
 go_enter Tryz.func23,Tryz.ntmps23
 go_wp2_with ((first | (go_at_call 56;refine(CV.out _ HB.out).mono ?_) | (go_at_call 67;refine(CM.out _ HB.out).mono ?_) | (go_at_call 68;refine(CF.out _ HB.out).mono ?_));rintro e w1 ⟨rfl,hbn⟩;have HB9:=aa (ai HB.out hbn);clear HB hbn;have HB:=HB9;clear HB9)
 exact bc (v:=.tuple #[.string ⟨#[]⟩,.int .i64 5]) (by simp only [results,Tryz.results23];go_simp) rfl ⟨rfl,HB.out⟩
theorem sA {B R:Nat} {a:RegA} {g:RegS} {vb vp:Value} {w:World} (h:bW B R vb a g vp w)(ho:dc a)(hG:dn w)(m:ByteArray)(hm:m.size≤1000000)(h2:modB m=true)(p:ByteArray×List bR)(hp:a.ps[whereA m a]? =some p):Calls Tryz.prog 23 #[.pointer (some ⟨R,0,none⟩),.string m] w fun en w'=> en=.returned (.tuple #[.string p.1,.int .i64 0])∧Below w.heap.size w w':=by
 have hok:=h.ok ho.toji
 have hlen:=h.len
 have hnp:=ho.np
 have CV:=aa (fun W (hW:Below w.heap.size w W)=> dm (h.ra.step hW) hok.pt.1)
 have HB:=aa (Below.refl w.heap.size w)
 have CM:=aa (fun W (hW:Below w.heap.size w W)=> ef m W hm (dV hG hW))
 have hms:∀ q∈g.qs,q.life.ms.length≤1000000:=fun q hq=> by
  obtain⟨i,hi⟩:=List.getElem?_of_mem hq
  have h9:=(ho.toji.life (aJ (h.put hi))).2.1
  rw [(h.lf q hq).1]
  exact Nat.le_trans h9 (by omega)
 have hf:whereA m a < a.ps.length:=(aB hp).1
 obtain⟨PB,cp,cur,hvp,hPB,hbP,-⟩:=h.ra.packs (by rintro c;rw [c] at hlen;simp at hlen;omega)
 subst hvp
 have CF:=aa (fun W (hW:Below w.heap.size w W)=> kF (h.ra.step hW) m (by omega) hms)
 rw [h.whr,eM (by omega)] at CF
 obtain⟨q,hq,e1,e2,e3,e4⟩:=h.get hp
 have hqm:=aJ hq
 have hlv:=h.ra.life rfl hq
 rw [h2] at CM
 have hn:=hlv.1.open1.1
 rw [e1] at hn
 have HCN:=aa (ba hn hlv.1.lt)
 generalize(cE m).1=o1 at*
 generalize whereA m a=i at*
 clear h ho hok hlen hnp h2 hms hG hf hp hq e1 e2 e3 e4 hqm hlv hn hPB hbP
 go_enter Tryz.func23,Tryz.ntmps23
 go_wp2_with (first | ((first | (go_at_call 56;refine(CV.out _ HB.out).mono ?_) | (go_at_call 67;refine(CM.out _ HB.out).mono ?_));rintro e w1 ⟨rfl,hbn⟩;have HB9:=aa (ai HB.out hbn);clear HB hbn;have HB:=HB9;clear HB9) | (go_at_call 68;refine(CF.out _ HB.out).mono ?_;rintro e w1 ⟨rfl,hbn⟩;have HB9:=aa (ai HB.out hbn);clear HB hbn;have HB:=HB9;clear HB9;have cn:=ag HCN.out.1 HB.out;have ln:=ar HCN.out.2 HB.out.size))
 exact bc (v:=.tuple #[.string p.1,.int .i64 0]) (by simp only [results,Tryz.results23];go_simp) rfl ⟨rfl,HB.out⟩
end
section
open Sx Go.RowKit Mr
section
variable {a:RegA} {n i k:Nat} {e:bQ} {p:ByteArray×List bR}
theorem fq(h:k≠i):(putA a n i e).ps[k]? =a.ps[k]?:=by
 unfold putA
 cases a.ps[i]? with
 | none=> rfl
 | some p=> dsimp only;rw [List.getElem?_set_ne (fun c=> h c.symm)]
theorem j6(h:a.ps[i]? =some p):(putA a n i e).ps[i]? =some (lT a n e p):=by
 rw [j4 h]
 exact List.getElem?_set_self (aB h).1
theorem eY:(putA a n i e).bks=a.bks∧(putA a n i e).pt=a.pt:=by
 unfold putA
 cases a.ps[i]? with
 | none=> exact⟨rfl,rfl⟩
 | some p=> exact⟨rfl,rfl⟩
theorem gR(h:a.ps[i]? =some p):(putA a n i e).used=a.used.set n (a.used.getD n 0+1):=by rw [j4 h]
theorem gU {l:List Nat} {n k v:Nat}:(l.set n v).getD k 0=if n=k∧n < l.length then v else l.getD k 0:=by
 rw [di,List.getElem?_set]
 by_cases h:n=k
 ·subst h
  by_cases h2:n < l.length
  ·simp [h2]
  ·simp [h2]
 ·simp [h,di]
theorem lX(es:List bR)(y:bR):br (es++[y])=br es++[y.1]:=by unfold br;rw [List.map_append];rfl
theorem yU:lf (lT a n e p)=(lf p).add p.1 e:=by
 show lifeOf p.1 (br (p.2++[_]))=_
 rw [lX,bZ]
 rfl
theorem ji.put(ho:ji a)(hp:a.ps[i]? =some p)(hok:eC e=true)(hcan:cg p.1 (lf p) e=true)(hl:p.2.length < 500)(hu:a.used.getD n 0 < (a.bks.getD n (0,[])).2.length):ji (putA a n i e):=by
 obtain⟨q1,q2,q3,q4⟩:=ho.p p (aJ hp)
 rw [j4 hp]
 refine⟨ho.sec,by show(a.used.set _ _).length=8;rw [List.length_set];exact ho.u8,fun k=> ?_,by show(a.ps.set _ _).length≤100;rw [List.length_set];exact ho.np,fun x hx=> ?_⟩
 ·show(a.used.set _ _).getD k 0≤_
  rw [gU]
  split
  ·rename_i c
   obtain⟨rfl,-⟩:=c
   exact hu
  ·exact ho.us k
 ·rcases List.mem_or_eq_of_mem_set hx with hx | rfl
  ·exact ho.p x hx
  ·have hc2:iE p.1 (br p.2) e=true:=by rw [← fC q2];exact hcan
   refine⟨by show(p.2++[_]).length≤500;rw [cY];simp;omega,?_,?_,q4⟩
   ·show fA p.1 (br (p.2++[_]))
    rw [lX]
    exact q2.snoc hc2
   ·show ∀ x∈br (p.2++[_]),eC x=true
    rw [lX]
    intro x hx
    rcases List.mem_append.1 hx with hx | hx
    ·exact q3 x hx
    ·obtain rfl:=List.mem_singleton.1 hx
     exact hok
theorem li {b t:Int} {m to:ByteArray} (hb:¬ (0≤b∧b < a.bks.length)):moveA a b t m to=(3,a):=by unfold moveA;rw [aG hb]
theorem fY {b t:Int} {m to:ByteArray} (hb:0≤b∧b < a.bks.length)(h:¬ (modB m=true∧nameB to=true∧bJ t=true)):moveA a b t m to=(2,a):=by unfold moveA;rw [aA (fun c=> c hb),aG h]
theorem fZ {b t:Int} {m to:ByteArray} (hb:0≤b∧b < a.bks.length)(h:modB m=true∧nameB to=true∧bJ t=true)(hw:a.ps[whereA m a]? =none∨a.ps[findA to a]? =none):moveA a b t m to=(5,a):=by
 unfold moveA;rw [aA (fun c=> c hb),aA (fun c=> c h)]
 rcases hw with hw | hw
 ·rw [hw]
 ·rw [hw];cases a.ps[whereA m a]? <;> rfl
theorem ik {b t:Int} {m to:ByteArray} {p q:ByteArray×List bR} (hb:0≤b∧b < a.bks.length)(h:modB m=true∧nameB to=true∧bJ t=true)(hp:a.ps[whereA m a]? =some p)(hq:a.ps[findA to a]? =some q):moveA a b t m to=
  if whereA m a=findA to a∨cg p.1 (lf p) (bE t m to)=false∨cg q.1 (lf q) (cf t m p.1)=false then(10,a)else
  if 500≤p.2.length∨500≤q.2.length then(11,a)else if leftA a b < 2 then(4,a)else
  (0,putA (putA a b.toNat (whereA m a) (bE t m to)) b.toNat (findA to a) (cf t m p.1)):=by
 unfold moveA;rw [aA (fun c=> c hb),aA (fun c=> c h),hp,hq]
theorem jd {t:Int} {m to:ByteArray} (h:modB m=true∧nameB to=true∧bJ t=true):eC (bE t m to)=true:=by
 obtain⟨h1,h2,h3⟩:=h
 have h4:=of_decide_eq_true h3
 have s1:=gJ h1
 have s2:=(bI h2).2
 show gy 6 t 0 0 m to=true
 unfold gy gx dH
 rw [h1,h2]
 simp [h4.1,h4.2]
 omega
theorem j7 {t:Int} {m nm:ByteArray} (h1:modB m=true)(h2:nameB nm=true)(h3:bJ t=true):eC (cf t m nm)=true:=by
 have h4:=of_decide_eq_true h3
 have s1:=gJ h1
 have s2:=(bI h2).2
 show gy 5 t 0 0 m nm=true
 unfold gy gx dH
 rw [h1,h2]
 simp [h4.1,h4.2]
 omega
end
theorem il(t:Int)(w:World):Calls Tryz.prog 60 #[.int .i64 t] w fun en w'=> en=.returned (.bool (bJ t))∧Below w.heap.size w w':=by
 unfold bJ
 by_cases h0:0≤t
 ·by_cases h1:t≤1099511627776
  ·rw [bF ⟨h0,h1⟩]
   have h2:t≥0:=h0
   go_enter Tryz.func60,Tryz.ntmps60
   go_wp2_with fail
   exact aH (v:=.bool true) rfl rfl rfl ⟨rfl,(by repeat' (first | exact Below.refl _ _ | assumption | apply aI | apply bg | apply aK | (refine cB ?_ ?_ _) | (refine ai ?_ (by assumption)) | omega | (simp <;> omega)))⟩
  ·rw [bv (fun c=> h1 c.2)]
   have h2:t≥0:=h0
   go_enter Tryz.func60,Tryz.ntmps60
   go_wp2_with fail
   exact aH (v:=.bool false) rfl rfl rfl ⟨rfl,(by repeat' (first | exact Below.refl _ _ | assumption | apply aI | apply bg | apply aK | (refine cB ?_ ?_ _) | (refine ai ?_ (by assumption)) | omega | (simp <;> omega)))⟩
 ·rw [bv (fun c=> h0 c.1)]
  have h2:t < 0:=by omega
  go_enter Tryz.func60,Tryz.ntmps60
  go_wp2_with fail
  exact aH (v:=.bool false) rfl rfl rfl ⟨rfl,(by repeat' (first | exact Below.refl _ _ | assumption | apply aI | apply bg | apply aK | (refine cB ?_ ?_ _) | (refine ai ?_ (by assumption)) | omega | (simp <;> omega)))⟩
end
section
open Sx Go.RowKit Mr
theorem vl(w:World)(A:Addr):(binOp .eql 112 (.pointer (some A)) (.pointer (some A))).run Tryz.prog w=.ok (.bool true) w:=by
 obtain⟨i0,hi,-,-,-⟩:=info_parts oe
 exact run_eql_ptr_same w A Tryz.underlying112 hi
theorem sB {w:World} {PB i k:Nat} {cs:Array Value} (h:w.heap[PB]? =some (.cells cs 116 (0,0)))(hne:i≠k):(binOp .eql 112 (.pointer (some ⟨PB,i*20,none⟩)) (.pointer (some ⟨PB,k*20,none⟩))).run Tryz.prog w=.ok (.bool false) w:=by
 obtain⟨i0,hi,-,hz,-⟩:=info_parts oe
 have h20:i0.size≠0:=by rw [hz];exact Nat.succ_ne_zero 19
 have hn2:(⟨PB,i*20,none⟩:Addr)≠⟨PB,k*20,none⟩:=fun e=> hne (by have h9:i*20=k*20:=congrArg Addr.off e;omega)
 exact run_eql_ptr_other w Tryz.underlying112 hi h20 hn2 h h
theorem vn {B R:Nat} {a:RegA} {g:RegS} {vb vp:Value} {w:World} (h:bW B R vb a g vp w)(ho:dc a)(hG:dn w)(b t:Int)(m to:ByteArray)(hs:m.size≤1000000∧to.size≤1000000):
  Calls Tryz.prog 55 #[.pointer (some ⟨R,0,none⟩),.int .i64 b,.int .i64 t,.string m,.string to] w fun en w'=> en=.returned (.int .i64 (moveA a b t m to).1)∧gh B R vb (moveA a b t m to).2 g vp w w':=by
 have hok:=h.ok ho.toji
 have hbks:g.bks=a.bks:=by rw [← h.abs];rfl
 have hlen:=h.len
 have hnp:=ho.np
 have hla:lM g b=leftA a b:=by rw [jZ,h.abs]
 have H:=aa h
 obtain⟨pa,cp,hvp⟩:=h.ra.vpS
 subst hvp
 have hms:∀ q∈g.qs,q.life.ms.length≤1000000:=fun q hq=> by
  obtain⟨i,hi⟩:=List.getElem?_of_mem hq
  have h9:=(ho.toji.life (aJ (h.put hi))).2.1
  rw [(h.lf q hq).1]
  exact Nat.le_trans h9 (by omega)
 have CV:=aa (fun W (hW:Below w.heap.size w W)=> dm (h.ra.step hW) hok.pt.1)
 have CB:=aa (fun W (hW:Below w.heap.size w W)=> book_any (h.ra.step hW) b)
 have CN:=aa (fun W=> eR to W (by omega))
 have CM:=aa (fun W (hW:Below w.heap.size w W)=> ef m W hs.1 (dV hG hW))
 have CT:=aa (fun W=> il t W)
 have CW:=aa (fun W (hW:Below w.heap.size w W)=> kF (h.ra.step hW) m (by omega) hms)
 have CF:=aa (fun W (hW:Below w.heap.size w W)=> fM (h.ra.step hW) to (by omega))
 have CL:=aa (fun W (hW:Below w.heap.size w W)=> jX (h.ra.step hW) hok b)
 rw [hbks] at CB
 rw [hla] at CL
 rw [h.find] at CF
 rw [h.whr] at CW
 have HG:=aa hG
 have HO:=aa ho
 have HLN:=aa hlen
 have HS:=aa hs
 have HB:=aa (Below.refl w.heap.size w)
 generalize(cE m).1=o1 at*
 clear hok hbks hnp hla hG hs hlen hms
 clear h ho
 go_enter Tryz.func55,Tryz.ntmps55
 cases hbB:decide (0≤b∧b < a.bks.length)with
 | false=>
  rw [hbB] at CB
  have HMM:=aa (show moveA a b t m to=(3,a)from li (of_decide_eq_false hbB))
  clear hbB
  go_wp2_with ((first | (go_at_call 56;refine(CV.out _ HB.out).mono ?_) | (go_at_call 59;refine(CB.out _ HB.out).mono ?_));rintro e w1 ⟨rfl,hbn⟩;have HB9:=aa (ai HB.out hbn);clear HB hbn;have HB:=HB9;clear HB9)
  exact aH (v:=.int .i64 3) rfl rfl rfl ⟨by rw [HMM.out],by rw [HMM.out];exact H.out.stay HB.out⟩
 | true=>
  rw [hbB] at CB
  have hb:=of_decide_eq_true hbB
  clear hbB
  obtain⟨n,rfl⟩:=Int.eq_ofNat_of_zero_le hb.1
  go_upto_region 5 with((first | (go_at_call 56;refine(CV.out _ HB.out).mono ?_) | (go_at_call 59;refine(CB.out _ HB.out).mono ?_));rintro e w1 ⟨rfl,hbn⟩;have HB9:=aa (ai HB.out hbn);clear HB hbn;have HB:=HB9;clear HB9)
  cases h2:modB m with
  | false=>
   rw [h2] at CM
   have HMM:=aa (show moveA a (n:Int) t m to=(2,a)from fY hb (by simp [h2]))
   clear hb h2
   go_wp2_with (go_at_call 67;refine(CM.out _ HB.out).mono ?_;rintro e w1 ⟨rfl,hbn⟩;have HB9:=aa (ai HB.out hbn);clear HB hbn;have HB:=HB9;clear HB9)
   exact aH (v:=.int .i64 2) rfl rfl rfl ⟨by rw [HMM.out],by rw [HMM.out];exact H.out.stay HB.out⟩
  | true=>
   rw [h2] at CM
   go_upto_region 6 with(go_at_call 67;refine(CM.out _ HB.out).mono ?_;rintro e w1 ⟨rfl,hbn⟩;have HB9:=aa (ai HB.out hbn);clear HB hbn;have HB:=HB9;clear HB9)
   cases h3:nameB to with
   | false=>
    rw [h3] at CN
    have HMM:=aa (show moveA a (n:Int) t m to=(2,a)from fY hb (by simp [h3]))
    clear hb h2 h3
    go_wp2_with (go_at_call 39;refine(CN.out _).mono ?_;rintro e w1 ⟨rfl,hbn⟩;have HB9:=aa (ai HB.out hbn);clear HB hbn;have HB:=HB9;clear HB9)
    exact aH (v:=.int .i64 2) rfl rfl rfl ⟨by rw [HMM.out],by rw [HMM.out];exact H.out.stay HB.out⟩
   | true=>
    rw [h3] at CN
    cases h4:bJ t with
    | false=>
     rw [h4] at CT
     have HMM:=aa (show moveA a (n:Int) t m to=(2,a)from fY hb (by simp [h4]))
     clear hb h2 h3 h4
     go_wp2_with ((first | (go_at_call 39;refine(CN.out _).mono ?_) | (go_at_call 60;refine(CT.out _).mono ?_));rintro e w1 ⟨rfl,hbn⟩;have HB9:=aa (ai HB.out hbn);clear HB hbn;have HB:=HB9;clear HB9)
     exact aH (v:=.int .i64 2) rfl rfl rfl ⟨by rw [HMM.out],by rw [HMM.out];exact H.out.stay HB.out⟩
    | true=>
     rw [h4] at CT
     have hv:=ba h2 (ba h3 h4)
     clear h2 h3 h4
     go_upto_region 8 with((first | (go_at_call 39;refine(CN.out _).mono ?_) | (go_at_call 60;refine(CT.out _).mono ?_));rintro e w1 ⟨rfl,hbn⟩;have HB9:=aa (ai HB.out hbn);clear HB hbn;have HB:=HB9;clear HB9)
     cases hp:a.ps[whereA m a]? with
     | none=>
      have h4:¬ whereA m a < a.ps.length:=by have:=List.getElem?_eq_none_iff.1 hp;omega
      rw [jD (by have:=HLN.out;omega)] at CW
      have HMM:=aa (show moveA a (n:Int) t m to=(5,a)from fZ hb hv (ax hp))
      generalize hpk:kE (.slice pa g.qs.length cp) g.qs.length (findA to a)=P9 at CF
      clear hpk
      generalize whereA m a=i at*
      generalize findA to a=k at*
      clear hb hv h4 hp
      go_wp2_with ((first | (go_at_call 68;refine(CW.out _ HB.out).mono ?_) | (go_at_call 57;refine(CF.out _ HB.out).mono ?_));rintro e w1 ⟨rfl,hbn⟩;have HB9:=aa (ai HB.out hbn);clear HB hbn;have HB:=HB9;clear HB9)
      exact aH (v:=.int .i64 5) rfl rfl rfl ⟨by rw [HMM.out],by rw [HMM.out];exact H.out.stay HB.out⟩
     | some p=>
      cases hq:a.ps[findA to a]? with
      | none=>
       have h4:whereA m a < a.ps.length:=(aB hp).1
       have h5:¬ findA to a < a.ps.length:=by have:=List.getElem?_eq_none_iff.1 hq;omega
       have HMM:=aa (show moveA a (n:Int) t m to=(5,a)from fZ hb hv (ay hq))
       obtain⟨PB,cp2,cur,evp,hPB,hbP,-⟩:=H.out.ra.packs (by rintro c;have h9:=HLN.out;rw [c] at h9;simp at h9;omega)
       cases evp
       rw [eM (by have:=HLN.out;omega)] at CW
       rw [jD (by have:=HLN.out;omega)] at CF
       generalize whereA m a=i at*
       generalize findA to a=k at*
       clear hb hv h4 h5 hp hq hbP hPB
       go_wp2_with ((first | (go_at_call 68;refine(CW.out _ HB.out).mono ?_) | (go_at_call 57;refine(CF.out _ HB.out).mono ?_));rintro e w1 ⟨rfl,hbn⟩;have HB9:=aa (ai HB.out hbn);clear HB hbn;have HB:=HB9;clear HB9)
       exact aH (v:=.int .i64 5) rfl rfl rfl ⟨by rw [HMM.out],by rw [HMM.out];exact H.out.stay HB.out⟩
      | some q=>
       by_cases h6:whereA m a=findA to a
       ·skip
        have h4:whereA m a < a.ps.length:=(aB hp).1
        have h5:findA to a < a.ps.length:=(aB hq).1
        obtain⟨PB,cp2,cur,evp,hPB,hbP,-⟩:=H.out.ra.packs (by rintro c;have h9:=HLN.out;rw [c] at h9;simp at h9;omega)
        cases evp
        rw [eM (by have:=HLN.out;omega)] at CW
        rw [eM (by have:=HLN.out;omega)] at CF
        obtain⟨x,hx,e1,e2,e3,e4⟩:=H.out.get hp
        obtain⟨y,hy,f1,f2,f3,f4⟩:=H.out.get hq
        obtain⟨pv,cv,hve⟩:=H.out.ra.veS (aJ hx)
        obtain⟨pz,cz,hvz⟩:=H.out.ra.veS (aJ hy)
        have hlx:=H.out.ra.life rfl hx
        have hly:=H.out.ra.life rfl hy
        have hcx:=hlx.2.2
        rw [hve,e2] at hcx
        have hcy:=hly.2.2
        rw [hvz,f2] at hcy
        have hcn:=hlx.1.open1.1
        rw [e1] at hcn
        have HCV:=aa (ba hcx (ba hcy (ba hcn hlx.1.lt)))
        have hbx:=HO.out.toji.life (aJ hp)
        have hby:=HO.out.toji.life (aJ hq)
        have CC:∀ W,Below w.heap.size w W→∀ s:aC W,Calls Tryz.prog 43 #[.pointer (some ⟨PB,whereA m a*20,none⟩),(.agg #[.int .i64 6,.int .i64 t,.int .i64 0,.int .i64 0,.string m,.string to])] s.1 fun e w'=> e=.returned (.bool (cg p.1 (lf p) (bE t m to)))∧∃ t:aC W,w'=t.1:=fun W hW s=> by
         have h9:=dy s (jO ((hlx.1.step hW).step s.2) (bE t m to) ⟨show(1:Int)≤6 by decide,show(6:Int)≤9 by decide⟩ (by rw [e3];have:=hbx.2.1;omega) (by rw [e3];have:=hbx.2.2;omega))
         rw [e1,e3] at h9
         exact h9
        have CD:∀ W,Below w.heap.size w W→∀ s:aC W,Calls Tryz.prog 43 #[.pointer (some ⟨PB,findA to a*20,none⟩),(.agg #[.int .i64 5,.int .i64 t,.int .i64 0,.int .i64 0,.string m,.string p.1])] s.1 fun e w'=> e=.returned (.bool (cg q.1 (lf q) (cf t m p.1)))∧∃ t:aC W,w'=t.1:=fun W hW s=> by
         have h9:=dy s (jO ((hly.1.step hW).step s.2) (cf t m p.1) ⟨show(1:Int)≤5 by decide,show(5:Int)≤9 by decide⟩ (by rw [f3];have:=hby.2.1;omega) (by rw [f3];have:=hby.2.2;omega))
         rw [f1,f3] at h9
         exact h9
        have CC:=aa CC
        have CD:=aa CD
        have HMM:=aa (show moveA a (n:Int) t m to=(10,a)from by rw [ik hb hv hp hq,aG (ax h6)])
        rw [h6] at*
        generalize findA to a=k at*
        clear hb hv h4 h5 hp hq hx hy e1 e2 e3 e4 f1 f2 f3 f4 hve hvz hlx hly hcx hcy hcn hbx hby hbP hPB h6
        go_upto_region 12 with(first | (go_at_call 68;refine(CW.out _ HB.out).mono ?_;rintro e w1 ⟨rfl,hbn⟩;have HB9:=aa (ai HB.out hbn);clear HB hbn;have HB:=HB9;clear HB9) | (go_at_call 57;refine(CF.out _ HB.out).mono ?_;rintro e w1 ⟨rfl,hbn⟩;have HB9:=aa (ai HB.out hbn);clear HB hbn;have HB:=HB9;clear HB9;have cn:=ag HCV.out.2.2.1 HB.out;have ln:=ar HCV.out.2.2.2 HB.out.size))
        have HT1:=aa (au w1 (.cells #[.int .i64 6,.int .i64 t,.int .i64 0,.int .i64 0,.string m,.string to] 29))
        have HB9:=aa (ai HB.out (bU (W:=w1) (o:=(.cells #[.int .i64 6,.int .i64 t,.int .i64 0,.int .i64 0,.string m,.string to] 29))))
        clear HB cn ln
        have HB:=HB9
        clear HB9
        generalize w1.alloc (.cells #[.int .i64 6,.int .i64 t,.int .i64 0,.int .i64 0,.string m,.string to] 29)=W1 at*
        generalize w1.heap.size=T1 at*
        have cn:=ag HCV.out.2.2.1 HB.out;have ln:=ar HCV.out.2.2.2 HB.out.size
        go_upto_region 13 with fail
        have HT1B:=aa (an HT1.out (bU (W:=W1) (o:=(.cells #[.int .i64 5,.int .i64 t,.int .i64 0,.int .i64 0,.string m,.string p.1] 29))))
        have HT2:=aa (au W1 (.cells #[.int .i64 5,.int .i64 t,.int .i64 0,.int .i64 0,.string m,.string p.1] 29))
        have HB9:=aa (ai HB.out (bU (W:=W1) (o:=(.cells #[.int .i64 5,.int .i64 t,.int .i64 0,.int .i64 0,.string m,.string p.1] 29))))
        clear HB cn ln HT1
        have HB:=HB9
        clear HB9
        generalize W1.alloc (.cells #[.int .i64 5,.int .i64 t,.int .i64 0,.int .i64 0,.string m,.string p.1] 29)=W2 at*
        generalize W1.heap.size=T2 at*
        have hps:=fun s:aC W2=> vl s.1 ⟨PB,k*20,none⟩
        have u00:∀ s:aC W2,s.1.cell? ⟨T1,0,none⟩=some (.int .i64 6):=fun s=> ag (ah HT1B.out rfl) s.2
        have u01:∀ s:aC W2,s.1.cell? ⟨T1,1,none⟩=some (.int .i64 t):=fun s=> ag (ah HT1B.out rfl) s.2
        have u02:∀ s:aC W2,s.1.cell? ⟨T1,2,none⟩=some (.int .i64 0):=fun s=> ag (ah HT1B.out rfl) s.2
        have u03:∀ s:aC W2,s.1.cell? ⟨T1,3,none⟩=some (.int .i64 0):=fun s=> ag (ah HT1B.out rfl) s.2
        have u04:∀ s:aC W2,s.1.cell? ⟨T1,4,none⟩=some (.string m):=fun s=> ag (ah HT1B.out rfl) s.2
        have u05:∀ s:aC W2,s.1.cell? ⟨T1,5,none⟩=some (.string to):=fun s=> ag (ah HT1B.out rfl) s.2
        have u10:∀ s:aC W2,s.1.cell? ⟨T2,0,none⟩=some (.int .i64 5):=fun s=> ag (ah HT2.out rfl) s.2
        have u11:∀ s:aC W2,s.1.cell? ⟨T2,1,none⟩=some (.int .i64 t):=fun s=> ag (ah HT2.out rfl) s.2
        have u12:∀ s:aC W2,s.1.cell? ⟨T2,2,none⟩=some (.int .i64 0):=fun s=> ag (ah HT2.out rfl) s.2
        have u13:∀ s:aC W2,s.1.cell? ⟨T2,3,none⟩=some (.int .i64 0):=fun s=> ag (ah HT2.out rfl) s.2
        have u14:∀ s:aC W2,s.1.cell? ⟨T2,4,none⟩=some (.string m):=fun s=> ag (ah HT2.out rfl) s.2
        have u15:∀ s:aC W2,s.1.cell? ⟨T2,5,none⟩=some (.string p.1):=fun s=> ag (ah HT2.out rfl) s.2
        have ul0:∀ s:aC W2,T1 < s.1.heap.size:=fun s=> ar (ak HT1B.out) s.2.size
        have ul1:∀ s:aC W2,T2 < s.1.heap.size:=fun s=> ar (ak HT2.out) s.2.size
        have CX:=aa (CC.out _ HB.out)
        have CY:=aa (CD.out _ HB.out)
        refine aF (by kernel_rfl) (by kernel_rfl) ?_
        repeat(first | (refine WQ.skip rfl rfl rfl rfl ?_;simp only [Act.put,aU,aV,aW,aX]) | ((first | (apply WQ.val;(exact rfl)) | (apply WQ.valg;(exact rfl);(exact rfl);(exact rfl)));(intro w9 hw9;obtain⟨s9,rfl⟩:=hw9;simp [go_sem,u00,u01,u02,u03,u04,u05,u10,u11,u12,u13,u14,u15,ul0,ul1,hps];first | done | exact rfl | (with_reducible exact CX.out s9) | (with_reducible exact CY.out s9));simp only [Act.put,aU,aV,aW,aX]))
        refine WQ.fin fun W4 hbn=> ?_
        have HT1C:=aa (an HT1B.out hbn);have HT2C:=aa (an HT2.out hbn);have HB9:=aa (ai HB.out hbn);clear HB hbn HT1B HT2 CX CY;have HB:=HB9;clear HB9
        clear u00 u01 u02 u03 u04 u05 u10 u11 u12 u13 u14 u15 ul0 ul1
        go_wp2_with fail
        exact aH (v:=.int .i64 10) rfl rfl rfl ⟨by rw [HMM.out],by rw [HMM.out];exact H.out.stay HB.out⟩
       ·skip
        have h4:whereA m a < a.ps.length:=(aB hp).1
        have h5:findA to a < a.ps.length:=(aB hq).1
        obtain⟨PB,cp2,cur,evp,hPB,hbP,-⟩:=H.out.ra.packs (by rintro c;have h9:=HLN.out;rw [c] at h9;simp at h9;omega)
        cases evp
        rw [eM (by have:=HLN.out;omega)] at CW
        rw [eM (by have:=HLN.out;omega)] at CF
        obtain⟨x,hx,e1,e2,e3,e4⟩:=H.out.get hp
        obtain⟨y,hy,f1,f2,f3,f4⟩:=H.out.get hq
        obtain⟨pv,cv,hve⟩:=H.out.ra.veS (aJ hx)
        obtain⟨pz,cz,hvz⟩:=H.out.ra.veS (aJ hy)
        have hlx:=H.out.ra.life rfl hx
        have hly:=H.out.ra.life rfl hy
        have hcx:=hlx.2.2
        rw [hve,e2] at hcx
        have hcy:=hly.2.2
        rw [hvz,f2] at hcy
        have hcn:=hlx.1.open1.1
        rw [e1] at hcn
        have HCV:=aa (ba hcx (ba hcy (ba hcn hlx.1.lt)))
        have hbx:=HO.out.toji.life (aJ hp)
        have hby:=HO.out.toji.life (aJ hq)
        have CC:∀ W,Below w.heap.size w W→∀ s:aC W,Calls Tryz.prog 43 #[.pointer (some ⟨PB,whereA m a*20,none⟩),(.agg #[.int .i64 6,.int .i64 t,.int .i64 0,.int .i64 0,.string m,.string to])] s.1 fun e w'=> e=.returned (.bool (cg p.1 (lf p) (bE t m to)))∧∃ t:aC W,w'=t.1:=fun W hW s=> by
         have h9:=dy s (jO ((hlx.1.step hW).step s.2) (bE t m to) ⟨show(1:Int)≤6 by decide,show(6:Int)≤9 by decide⟩ (by rw [e3];have:=hbx.2.1;omega) (by rw [e3];have:=hbx.2.2;omega))
         rw [e1,e3] at h9
         exact h9
        have CD:∀ W,Below w.heap.size w W→∀ s:aC W,Calls Tryz.prog 43 #[.pointer (some ⟨PB,findA to a*20,none⟩),(.agg #[.int .i64 5,.int .i64 t,.int .i64 0,.int .i64 0,.string m,.string p.1])] s.1 fun e w'=> e=.returned (.bool (cg q.1 (lf q) (cf t m p.1)))∧∃ t:aC W,w'=t.1:=fun W hW s=> by
         have h9:=dy s (jO ((hly.1.step hW).step s.2) (cf t m p.1) ⟨show(1:Int)≤5 by decide,show(5:Int)≤9 by decide⟩ (by rw [f3];have:=hby.2.1;omega) (by rw [f3];have:=hby.2.2;omega))
         rw [f1,f3] at h9
         exact h9
        obtain⟨ra,hra⟩:∃ x,cg p.1 (lf p) (bE t m to)=x:=⟨_,rfl⟩
        obtain⟨rb,hrb⟩:∃ x,cg q.1 (lf q) (cf t m p.1)=x:=⟨_,rfl⟩
        have CE:Hid (ra=true→¬ leftA a (n:Int) < 2→∀ W,Below w.heap.size w W→Calls Tryz.prog 65 #[.pointer (some ⟨R,0,none⟩),.int .i64 (n:Int),.pointer (some ⟨PB,whereA m a*20,none⟩),(.agg #[.int .i64 6,.int .i64 t,.int .i64 0,.int .i64 0,.string m,.string to])] W fun en w'=> en=.returned (.tuple #[])∧sq B R vb (putA a n (whereA m a) (bE t m to)) g (.slice (some ⟨PB,0,none⟩) g.qs.length cp) W w'):=fun h7 h10 W hW=> by
         have hnb:n < a.bks.length:=by omega
         have hus:=dX hnb
         obtain⟨PB9,cp9,e9,c9⟩:=fX (H.out.step hW) HO.out.toji hp hnb (by omega) (e:=bE t m to) (jd hv) (hra.trans h7)
         cases e9
         exact c9
        have CE2:Hid (ra=true→rb=true→¬ (500≤p.2.length∨500≤q.2.length)→¬ leftA a (n:Int) < 2→∀ (g1:RegS) (W:World),bW B R vb (putA a n (whereA m a) (bE t m to)) g1 (.slice (some ⟨PB,0,none⟩) g.qs.length cp) W→Calls Tryz.prog 65 #[.pointer (some ⟨R,0,none⟩),.int .i64 (n:Int),.pointer (some ⟨PB,findA to a*20,none⟩),(.agg #[.int .i64 5,.int .i64 t,.int .i64 0,.int .i64 0,.string m,.string p.1])] W fun en w'=> en=.returned (.tuple #[])∧sq B R vb (putA (putA a n (whereA m a) (bE t m to)) n (findA to a) (cf t m p.1)) g1 (.slice (some ⟨PB,0,none⟩) g.qs.length cp) W w'):=fun h7 h8 h9 h10 g1 W hV=> by
         have hnb:n < a.bks.length:=by omega
         have hus:=dX hnb
         have hA1:ji (putA a n (whereA m a) (bE t m to)):=HO.out.toji.put hp (jd hv) (hra.trans h7) (by omega) (by omega)
         have hq1:(putA a n (whereA m a) (bE t m to)).ps[findA to a]? =some q:=by rw [fq (fun c=> h6 c.symm)];exact hq
         have hu1:(putA a n (whereA m a) (bE t m to)).used.getD n 0 < ((putA a n (whereA m a) (bE t m to)).bks.getD n (0,[])).2.length:=by rw [eY.1,gR hp,gU];split <;> omega
         obtain⟨PB9,cp9,e9,c9⟩:=fX hV hA1 hq1 (by rw [eY.1];exact hnb) hu1 (e:=cf t m p.1) (j7 hv.1 (HO.out.p p (aJ hp)).2.2.2 hv.2.2) (hrb.trans h8)
         have e8:PB=PB9:=by have h9:=congrArg Value.ownBlock e9;simpa [Value.ownBlock] using h9
         subst e8
         exact c9
        have hnE:∀ W,Below w.heap.size w W→∀ s:aC W,(binOp .eql 112 (.pointer (some ⟨PB,whereA m a*20,none⟩)) (.pointer (some ⟨PB,findA to a*20,none⟩))).run Tryz.prog s.1=.ok (.bool false) s.1:=fun W hW s=> sB (an (an hbP hW) s.2) h6
        have HNE:=aa hnE
        clear hnE
        rw [hra] at CC
        rw [hrb] at CD
        have CC:=aa CC
        have CD:=aa CD
        have hM:moveA a (n:Int) t m to=if ra=false∨rb=false then(10,a)else if 500≤p.2.length∨500≤q.2.length then(11,a)else if leftA a (n:Int) < 2 then(4,a)else(0,putA (putA a n (whereA m a) (bE t m to)) n (findA to a) (cf t m p.1)):=by
         rw [ik hb hv hp hq,Int.toNat_natCast]
         rw [← hra,← hrb]
         by_cases c7:cg p.1 (lf p) (bE t m to)=false∨cg q.1 (lf q) (cf t m p.1)=false
         ·rw [aG (ay c7),aG c7]
         ·rw [aA (fun c=> c.elim h6 c7),aA c7]
        have HM:=aa hM
        generalize putA (putA a n (whereA m a) (bE t m to)) n (findA to a) (cf t m p.1)=a2 at*
        generalize putA a n (whereA m a) (bE t m to)=a1 at*
        generalize p.2.length=L1 at*
        generalize q.2.length=L2 at*
        generalize leftA a (n:Int)=L3 at*
        generalize whereA m a=i at*
        generalize findA to a=k at*
        clear hb hv h4 h5 hp hq hx hy e1 e2 e3 e4 f1 f2 f3 f4 hve hvz hlx hly hcx hcy hcn hbx hby hbP hPB h6 hra hrb hM
        go_upto_region 12 with(first | (go_at_call 68;refine(CW.out _ HB.out).mono ?_;rintro e w1 ⟨rfl,hbn⟩;have HB9:=aa (ai HB.out hbn);clear HB hbn;have HB:=HB9;clear HB9) | (go_at_call 57;refine(CF.out _ HB.out).mono ?_;rintro e w1 ⟨rfl,hbn⟩;have HB9:=aa (ai HB.out hbn);clear HB hbn;have HB:=HB9;clear HB9;have cn:=ag HCV.out.2.2.1 HB.out;have ln:=ar HCV.out.2.2.2 HB.out.size))
        have HT1:=aa (au w1 (.cells #[.int .i64 6,.int .i64 t,.int .i64 0,.int .i64 0,.string m,.string to] 29))
        have HB9:=aa (ai HB.out (bU (W:=w1) (o:=(.cells #[.int .i64 6,.int .i64 t,.int .i64 0,.int .i64 0,.string m,.string to] 29))))
        clear HB cn ln
        have HB:=HB9
        clear HB9
        generalize w1.alloc (.cells #[.int .i64 6,.int .i64 t,.int .i64 0,.int .i64 0,.string m,.string to] 29)=W1 at*
        generalize w1.heap.size=T1 at*
        have cn:=ag HCV.out.2.2.1 HB.out;have ln:=ar HCV.out.2.2.2 HB.out.size
        go_upto_region 13 with fail
        have HT1B:=aa (an HT1.out (bU (W:=W1) (o:=(.cells #[.int .i64 5,.int .i64 t,.int .i64 0,.int .i64 0,.string m,.string p.1] 29))))
        have HT2:=aa (au W1 (.cells #[.int .i64 5,.int .i64 t,.int .i64 0,.int .i64 0,.string m,.string p.1] 29))
        have HB9:=aa (ai HB.out (bU (W:=W1) (o:=(.cells #[.int .i64 5,.int .i64 t,.int .i64 0,.int .i64 0,.string m,.string p.1] 29))))
        clear HB cn ln HT1
        have HB:=HB9
        clear HB9
        generalize W1.alloc (.cells #[.int .i64 5,.int .i64 t,.int .i64 0,.int .i64 0,.string m,.string p.1] 29)=W2 at*
        generalize W1.heap.size=T2 at*
        have hne:=HNE.out _ HB.out
        have u00:∀ s:aC W2,s.1.cell? ⟨T1,0,none⟩=some (.int .i64 6):=fun s=> ag (ah HT1B.out rfl) s.2
        have u01:∀ s:aC W2,s.1.cell? ⟨T1,1,none⟩=some (.int .i64 t):=fun s=> ag (ah HT1B.out rfl) s.2
        have u02:∀ s:aC W2,s.1.cell? ⟨T1,2,none⟩=some (.int .i64 0):=fun s=> ag (ah HT1B.out rfl) s.2
        have u03:∀ s:aC W2,s.1.cell? ⟨T1,3,none⟩=some (.int .i64 0):=fun s=> ag (ah HT1B.out rfl) s.2
        have u04:∀ s:aC W2,s.1.cell? ⟨T1,4,none⟩=some (.string m):=fun s=> ag (ah HT1B.out rfl) s.2
        have u05:∀ s:aC W2,s.1.cell? ⟨T1,5,none⟩=some (.string to):=fun s=> ag (ah HT1B.out rfl) s.2
        have u10:∀ s:aC W2,s.1.cell? ⟨T2,0,none⟩=some (.int .i64 5):=fun s=> ag (ah HT2.out rfl) s.2
        have u11:∀ s:aC W2,s.1.cell? ⟨T2,1,none⟩=some (.int .i64 t):=fun s=> ag (ah HT2.out rfl) s.2
        have u12:∀ s:aC W2,s.1.cell? ⟨T2,2,none⟩=some (.int .i64 0):=fun s=> ag (ah HT2.out rfl) s.2
        have u13:∀ s:aC W2,s.1.cell? ⟨T2,3,none⟩=some (.int .i64 0):=fun s=> ag (ah HT2.out rfl) s.2
        have u14:∀ s:aC W2,s.1.cell? ⟨T2,4,none⟩=some (.string m):=fun s=> ag (ah HT2.out rfl) s.2
        have u15:∀ s:aC W2,s.1.cell? ⟨T2,5,none⟩=some (.string p.1):=fun s=> ag (ah HT2.out rfl) s.2
        have ul0:∀ s:aC W2,T1 < s.1.heap.size:=fun s=> ar (ak HT1B.out) s.2.size
        have ul1:∀ s:aC W2,T2 < s.1.heap.size:=fun s=> ar (ak HT2.out) s.2.size
        have CX:=aa (CC.out _ HB.out)
        have CY:=aa (CD.out _ HB.out)
        cases ra with
        | false=>
         refine aF (by kernel_rfl) (by kernel_rfl) ?_
         repeat(first | (refine WQ.skip rfl rfl rfl rfl ?_;simp only [Act.put,aU,aV,aW,aX]) | ((first | (apply WQ.val;(exact rfl)) | (apply WQ.valg;(exact rfl);(exact rfl);(exact rfl)));(intro w9 hw9;obtain⟨s9,rfl⟩:=hw9;simp [go_sem,u00,u01,u02,u03,u04,u05,u10,u11,u12,u13,u14,u15,ul0,ul1,hne];first | done | exact rfl | (with_reducible exact CX.out s9) | (with_reducible exact CY.out s9));simp only [Act.put,aU,aV,aW,aX]))
         refine WQ.fin fun W4 hbn=> ?_
         have HT1C:=aa (an HT1B.out hbn);have HT2C:=aa (an HT2.out hbn);have HB9:=aa (ai HB.out hbn);clear HB hbn HT1B HT2 CX CY;have HB:=HB9;clear HB9
         clear u00 u01 u02 u03 u04 u05 u10 u11 u12 u13 u14 u15 ul0 ul1
         have hm:=HM.out
         rw [aG (ax rfl)] at hm
         have HMM:=aa hm
         clear hm HM
         go_wp2_with fail
         exact aH (v:=.int .i64 10) rfl rfl rfl ⟨by rw [HMM.out],by rw [HMM.out];exact H.out.stay HB.out⟩
        | true=>
         refine aF (by kernel_rfl) (by kernel_rfl) ?_
         repeat(first | (refine WQ.skip rfl rfl rfl rfl ?_;simp only [Act.put,aU,aV,aW,aX]) | ((first | (apply WQ.val;(exact rfl)) | (apply WQ.valg;(exact rfl);(exact rfl);(exact rfl)));(intro w9 hw9;obtain⟨s9,rfl⟩:=hw9;simp [go_sem,u00,u01,u02,u03,u04,u05,u10,u11,u12,u13,u14,u15,ul0,ul1,hne];first | done | exact rfl | (with_reducible exact CX.out s9) | (with_reducible exact CY.out s9));simp only [Act.put,aU,aV,aW,aX]))
         refine WQ.fin fun W4 hbn=> ?_
         have HT1C:=aa (an HT1B.out hbn);have HT2C:=aa (an HT2.out hbn);have HB9:=aa (ai HB.out hbn);clear HB hbn HT1B HT2 CX CY;have HB:=HB9;clear HB9
         clear u00 u01 u02 u03 u04 u05 u10 u11 u12 u13 u14 u15 ul0 ul1
         cases rb with
         | false=>
          have hm:=HM.out
          rw [aG (ay rfl)] at hm
          have HMM:=aa hm
          clear hm HM
          go_wp2_with fail
          exact aH (v:=.int .i64 10) rfl rfl rfl ⟨by rw [HMM.out],by rw [HMM.out];exact H.out.stay HB.out⟩
         | true=>
          have cv:=ag HCV.out.1 HB.out;have cz:=ag HCV.out.2.1 HB.out;have ln:=ar HCV.out.2.2.2 HB.out.size
          by_cases h9:500≤L1∨500≤L2
          ·have hx5:(500:Int)≤max (L1:Int) (L2:Int):=by omega
           have hx6:(500:Int)≤(max L1 L2:Nat):=by omega
           have hm:=HM.out
           rw [aA (show ¬ (true=false∨true=false)from by decide),aG h9] at hm
           have HMM:=aa hm
           clear hm HM
           clear h9
           go_upto_region 15 with fail
           go_quiet (fail)
           go_wp2_with fail
           exact aH (v:=.int .i64 11) rfl rfl rfl ⟨by rw [HMM.out],by rw [HMM.out];exact H.out.stay (ai HB.out (by repeat' (first | exact Below.refl _ _ | assumption | apply aI | apply bg | apply aK | (refine cB ?_ ?_ _) | (refine ai ?_ (by assumption)) | omega | (simp <;> omega))))⟩
          ·have hx5:¬ (500:Int)≤max (L1:Int) (L2:Int):=by omega
           have hx6:¬ (500:Int)≤(max L1 L2:Nat):=by omega
           have hx7:max (L1:Int) (L2:Int) < 500:=by omega
           by_cases h10:L3 < 2
           ·skip
            have hm:=HM.out
            rw [aA (show ¬ (true=false∨true=false)from by decide),aA h9,aG h10] at hm
            have HMM:=aa hm
            clear hm HM
            clear h9
            go_upto_region 15 with fail
            go_quiet (fail)
            have HB9:Hid (Below w.heap.size w (W4.drewN nq)):=aa (ai HB.out (by repeat' (first | exact Below.refl _ _ | assumption | apply aI | apply bg | apply aK | (refine cB ?_ ?_ _) | (refine ai ?_ (by assumption)) | omega | (simp <;> omega))));have HT1D:Hid ((W4.drewN nq).heap[T1]? =_):=aa (an HT1C.out (by repeat' (first | exact Below.refl _ _ | assumption | apply aI | apply bg | apply aK | (refine cB ?_ ?_ _) | (refine ai ?_ (by assumption)) | omega | (simp <;> omega))));have HT2D:Hid ((W4.drewN nq).heap[T2]? =_):=aa (an HT2C.out (by repeat' (first | exact Below.refl _ _ | assumption | apply aI | apply bg | apply aK | (refine cB ?_ ?_ _) | (refine ai ?_ (by assumption)) | omega | (simp <;> omega))));clear HB HT1C HT2C cv cz ln;have HB:=HB9;clear HB9;generalize W4.drewN nq=W5 at*
            go_wp2_with (go_at_call 17;refine(CL.out _ HB.out).mono ?_;rintro e w1 ⟨rfl,hbn⟩;have HT1E:=aa (an HT1D.out hbn);have HT2E:=aa (an HT2D.out hbn);have HB9:=aa (ai HB.out hbn);clear HB hbn HT1D HT2D;have HB:=HB9;clear HB9;obtain⟨x0,x1,x2,x3,x4,x5⟩:=bG HT1E.out;have xl:=ak HT1E.out)
            exact aH (v:=.int .i64 4) rfl rfl rfl ⟨by rw [HMM.out],by rw [HMM.out];exact H.out.stay HB.out⟩
           ·skip
            replace CE:=aa (CE.out rfl (by omega))
            replace CE2:=aa (CE2.out rfl rfl (by omega) (by omega))
            have hm:=HM.out
            rw [aA (show ¬ (true=false∨true=false)from by decide),aA h9,aA h10] at hm
            have HMM:=aa hm
            clear hm HM
            clear h9
            go_upto_region 15 with fail
            go_quiet (fail)
            have HB9:Hid (Below w.heap.size w (W4.drewN nq)):=aa (ai HB.out (by repeat' (first | exact Below.refl _ _ | assumption | apply aI | apply bg | apply aK | (refine cB ?_ ?_ _) | (refine ai ?_ (by assumption)) | omega | (simp <;> omega))));have HT1D:Hid ((W4.drewN nq).heap[T1]? =_):=aa (an HT1C.out (by repeat' (first | exact Below.refl _ _ | assumption | apply aI | apply bg | apply aK | (refine cB ?_ ?_ _) | (refine ai ?_ (by assumption)) | omega | (simp <;> omega))));have HT2D:Hid ((W4.drewN nq).heap[T2]? =_):=aa (an HT2C.out (by repeat' (first | exact Below.refl _ _ | assumption | apply aI | apply bg | apply aK | (refine cB ?_ ?_ _) | (refine ai ?_ (by assumption)) | omega | (simp <;> omega))));clear HB HT1C HT2C cv cz ln;have HB:=HB9;clear HB9;generalize W4.drewN nq=W5 at*
            go_upto_region 19 with(go_at_call 17;refine(CL.out _ HB.out).mono ?_;rintro e w1 ⟨rfl,hbn⟩;have HT1E:=aa (an HT1D.out hbn);have HT2E:=aa (an HT2D.out hbn);have HB9:=aa (ai HB.out hbn);clear HB hbn HT1D HT2D;have HB:=HB9;clear HB9;obtain⟨x0,x1,x2,x3,x4,x5⟩:=bG HT1E.out;have xl:=ak HT1E.out)
            go_upto_region 20 with(go_at_call 65;refine(CE.out _ HB.out).mono ?_;rintro e w1 ⟨rfl,g1,hV1,hM1⟩;have HE1:=aa (bT.pre HB.out hM1);have HT2F:=aa (hM1.keepT (H.out.ra.step HB.out) _ _ _ _ HT2E.out (by decide) (by decide) (by decide));have HV1:=aa hV1;clear hM1 hV1 x0 x1 x2 x3 x4 x5 xl;obtain⟨x0,x1,x2,x3,x4,x5⟩:=bG HT2F.out;have xl:=ak HT2F.out)
            go_wp2_with (go_at_call 65;refine(CE2.out _ _ HV1.out).mono ?_;rintro e w1 ⟨rfl,g2,hV2,hM2⟩;have HE2:=aa (bT.trans HE1.out hM2);have HV2:=aa hV2;clear hM2 hV2)
            exact aH (v:=.int .i64 0) rfl rfl rfl ⟨by rw [HMM.out],by rw [HMM.out];exact⟨g2,_,HV2.out,HE2.out⟩⟩
end
section
open Sx Go.RowKit Mr
def vt(a:RegA)(bt:ByteArray)(t0 t1:Int)(r:ByteArray)(i:Nat):Bool:=match a.ps[i]? with
 | some p=> jB a bt t0 t1 r p
 | none=> false
def du(a:RegA)(bt:ByteArray)(t0 t1:Int)(r:ByteArray)(i:Nat):List Nat:=(List.range i).filter (vt a bt t0 t1 r)
section
variable {a:RegA} {bt r:ByteArray} {t0 t1:Int} {i:Nat} {p:ByteArray×List bR}
theorem lY(hp:a.ps[i]? =some p)(h:jB a bt t0 t1 r p=false):du a bt t0 t1 r (i+1)=du a bt t0 t1 r i:=by
 unfold du
 rw [List.range_succ,List.filter_append]
 have:vt a bt t0 t1 r i=false:=by unfold vt;rw [hp];exact h
 simp [this]
theorem nt(hp:a.ps[i]? =some p)(h:jB a bt t0 t1 r p=true):du a bt t0 t1 r (i+1)=du a bt t0 t1 r i++[i]:=by
 unfold du
 rw [List.range_succ,List.filter_append]
 have:vt a bt t0 t1 r i=true:=by unfold vt;rw [hp];exact h
 simp [this]
theorem nu:(du a bt t0 t1 r i).length≤i:=by
 unfold du
 exact Nat.le_trans (List.length_filter_le _ _) (by simp)
def lZ(a:RegA)(bt:ByteArray)(t0 t1:Int)(r:ByteArray)(p:ByteArray×List bR)(m:ByteArray):Bool:= !(hasT (lf p).os r) && pW a bt t0 t1 m
theorem xi(h:∀ m∈(lf p).ms,lZ a bt t0 t1 r p m=false):jB a bt t0 t1 r p=false:=by
 unfold jB
 cases hh:hasT (lf p).os r with
 | true=> rfl
 | false=>
  rw [Bool.not_false,Bool.true_and,Bool.eq_false_iff]
  intro c
  obtain⟨m,hm,h2⟩:=List.any_eq_true.1 c
  have:=h m hm
  unfold lZ at this
  rw [hh,h2] at this
  cases this
theorem vu {m:ByteArray} (hm:m∈(lf p).ms)(h:lZ a bt t0 t1 r p m=true):jB a bt t0 t1 r p=true:=by
 unfold lZ at h
 unfold jB
 rw [Bool.and_eq_true] at h ⊢
 exact⟨h.1,List.any_eq_true.2 ⟨m,hm,h.2⟩⟩
theorem rC {o:ByteArray×List bR} {m:ByteArray} (ho:a.ps[findA (cE m).1 a]? =some o):pW a bt t0 t1 m=(fS (lf o).made.2.2.2.2.1 bt && decide (t0≤(lf o).made.2.1) && decide ((lf o).made.2.1≤t1)):=by
 unfold pW;rw [ho]
end
theorem dc.origin {a:RegA} (ho:dc a){p:ByteArray×List bR} (hp:p∈a.ps){m:ByteArray} (hm:m∈(lf p).ms):∃ o,a.ps[findA (cE m).1 a]? =some o:=by
 obtain⟨o,h1,h2⟩:=ho.org p hp m hm
 have hl:findA (cE m).1 a < a.ps.length:=List.findIdx_lt_length.2 ⟨o,h1,by rw [i6];exact h2⟩
 exact⟨_,bh hl⟩
theorem sC(nm:ByteArray)(i:Nat):(modN nm i).data.toList=nm.data.toList++58::Lib.itoa (i:Int):=by
 unfold modN
 simp [ByteArray.data_append]
theorem oZ {nm:ByteArray} (hn:nameB nm=true){i:Nat} (hi:i < 32):modB (modN nm i)=true∧(cE (modN nm i)).1=nm:=
 rr (o:=nm.data.toList) hi (sC nm i) (by simpa using hn)
theorem xj {t a b:Int} {nm ot:ByteArray} (h:gy 5 t a b nm ot=true):modB nm=true:=by
 unfold gy gx dH at h
 revert h
 generalize modB nm=x2
 generalize nameB ot=x3
 cases x2 <;> cases x3 <;> simp
theorem o4(nm:ByteArray)(hn:nameB nm=true):∀ h:List bQ,(∀ e∈h,eC e=true)→∀ m∈(lifeOf nm h).ms,modB m=true:=by
 refine eH (fun _ m hm=> by cases hm) fun h e ih hh m hm=> ?_
 have ih2:=ih fun e' he'=> hh e' (List.mem_append_left _ he')
 have he:eC e=true:=hh e (by simp)
 rw [bZ] at hm
 obtain⟨k,t,ea,eb,n1,ot⟩:=e
 change m∈dj nm (lifeOf nm h).ms (k,t,ea,eb,n1,ot)at hm
 unfold dj at hm
 dsimp only at hm
 split at hm
 ·rename_i c
  subst c
  rcases List.mem_append.1 hm with hm | hm
  ·exact ih2 m hm
  ·obtain⟨i,hi,rfl⟩:=List.mem_map.1 hm
   have hb:=(lD he).2
   exact(oZ hn (by have:=List.mem_range.1 hi;omega)).1
 ·split at hm
  ·rename_i c
   subst c
   rcases List.mem_append.1 hm with hm | hm
   ·exact ih2 m hm
   ·obtain rfl:=List.mem_singleton.1 hm
    exact xj he
  ·split at hm
   ·exact ih2 m (List.mem_filter.1 hm).1
   ·exact ih2 m hm
theorem ji.mods {a:RegA} (ho:ji a){p:ByteArray×List bR} (hp:p∈a.ps){m:ByteArray} (hm:m∈(lf p).ms):modB m=true:=by
 obtain⟨h1,h2,h3,h4⟩:=ho.p p hp
 exact o4 p.1 h4 _ h3 m hm
theorem bw.made {T:TypeId} {B off:Nat} {name:ByteArray} {x:LifeS} {vm vo:Value} {W:World} (h:bw T B off name x vm vo W){k t ea eb:Int} {n1 ot:ByteArray} (hm:x.made=(k,t,ea,eb,n1,ot)):∀ (j:Nat) (u:Value),[Value.int .i64 k,.int .i64 t,.int .i64 ea,.int .i64 eb,.string n1,.string ot][j]? =some u→W.cell? ⟨B,off+3+j,none⟩=some u:=by
 intro j u hj
 rw [Nat.add_assoc]
 refine h.cell ?_
 have e:fD name x vm vo=[.string name,.int .i64 (x.n:Int),.int .i64 x.at_]++[Value.int .i64 k,.int .i64 t,.int .i64 ea,.int .i64 eb,.string n1,.string ot]++[vm,vo,.int .i64 x.thr,.int .i64 x.hot,.bool x.tst,.int .i64 x.tes,.int .i64 x.fau,.int .i64 x.mov,.bool x.scr]:=by unfold fD;rw [hm];rfl
 have hj6:j < 6:=(aB hj).1
 rw [e,List.append_assoc,List.getElem?_append_right (by simp),List.getElem?_append_left (by simp;omega)]
 rw [← hj]
 congr 1
 simp
def eE(vp:Value)(i:Nat):Value:=kE vp (i+1) i
theorem j8 {PB n cp i:Nat}:eE (.slice (some ⟨PB,0,none⟩) n cp) i=.pointer (some ⟨PB,i*20,none⟩):=by unfold eE kE;dsimp only;rw [aG (by omega)]
theorem yV:(Tryz.prog.info? 112).map (fun i=> (i.zero,i.size,i.bytes))=some (some (.pointer none),1,8):=by kernel_rfl
theorem rD:(Tryz.prog.info? 29).map (·.size)=some 6:=by kernel_rfl
theorem og {B R:Nat} {a:RegA} {g:RegS} {vb vp:Value} {w:World} (h:bW B R vb a g vp w)(ho:dc a)(hG:dn w)(bt r:ByteArray)(t0 t1:Int):
  Calls Tryz.prog 61 #[.pointer (some ⟨R,0,none⟩),.string bt,.int .i64 t0,.int .i64 t1,.string r] w fun en w'=> ∃ v',en=.returned v'∧w'.ownsRow w.heap.size 112 1 v' (affA a bt t0 t1 r).length ((affA a bt t0 t1 r).map (eE vp))∧Below w.heap.size w w':=by
 have hlen:=h.len
 have hnp:=ho.np
 have hqn:g.qs.length≤100:=by omega
 have H:=aa h
 obtain⟨pa,cp,hvp⟩:=h.ra.vpS
 subst hvp
 have CM:=aa (fun m (hm:m.size≤1000000) W (hW:Below w.heap.size w W)=> ef m W hm (dV hG hW))
 have CF0:=aa (fun nm W (hW:Below w.heap.size w W)=> fM (h.ra.step hW) nm (by omega))
 have HO:=aa ho
 have HLN:=aa hlen
 have HNP:=aa hnp
 have G10:=aa h.ra.cells.2.2.1
 have HRL:=aa h.ra.cells.2.2.2.1
 have g10:=G10.out
 have hR:=HRL.out
 clear h ho hG hlen hnp
 go_enter Tryz.func61,Tryz.ntmps61
 go_wp2_with fail
 apply wp_scope_straight
 go_wp2_with fail
 apply wp_label
 go_wp2_with fail
 clear g10 hR
 go_loopw [11,24] (fun vo ix wr=> ∃ i:Nat,i≤g.qs.length∧ix=.int .i64 i∧Hid (wr.ownsRow w.heap.size 112 1 vo (du a bt t0 t1 r i).length ((du a bt t0 t1 r i).map (eE (.slice pa g.qs.length cp))))∧Hid (Below w.heap.size w wr)) (fun _ ix _=> g.qs.length - (intOf ix).toNat)
 case atStart=> exact⟨0,by omega,rfl,⟨rfl,ax ⟨rfl,rfl⟩⟩,Below.refl _ _⟩
 case round=>
  obtain⟨i,hi,rfl,HQ,HW⟩:=hrel
  have g10:wr.cell? ⟨R,10,none⟩=some (.slice pa g.qs.length cp):=ag G10.out HW.out
  have hR:=ar HRL.out HW.out.size
  by_cases hc:i < g.qs.length
  ·have c1:(i:Int) < g.qs.length:=by omega
   have c0:(0:Int)≤i:=by omega
   obtain⟨p,hp⟩:∃ p,a.ps[i]? =some p:=⟨a.ps[i]'(by have:=HLN.out;omega),bh _⟩
   obtain⟨PB,cp2,cur,ea,hPB,hbP,-⟩:=H.out.ra.packs (by rintro e;rw [e] at hc;simp at hc)
   cases ea
   obtain⟨q,hq,e1,e2,e3,e4⟩:=H.out.get hp
   have hL:=(H.out.ra.life rfl hq).1
   have hbl:=HO.out.toji.life (aJ hp)
   have HPm:=aa (aJ hp)
   have HP:=aa hp
   rw [e3] at hL
   obtain⟨am,cm,hvm,hmc⟩:=hL.ms.cells
   have HMC0:=aa hmc
   have HL:=aa hL
   have n9:=ag hL.open1.2.2.2.1 HW.out
   rw [hvm] at n9
   have hPl:=ar (ak hbP) HW.out.size
   have HPL:=aa (ak hbP)
   have HML:=aa hbl.2
   have hmlen:=hbl.2.1
   have HCI:=aa hc
   clear hc hp hq e1 e2 e3 e4 hL hbl hmc hbP hPB
   obtain⟨wo,rfl⟩:∃ wo:World,wo=wr:=⟨_,rfl⟩
   go_wp2_with fail
   go_hide hQ
   go_loopw [11,39] (fun vo jx wr=> ∃ j:Nat,j≤(lf p).ms.length∧jx=.int .i64 j∧Hid (∀ m∈(lf p).ms.take j,lZ a bt t0 t1 r p m=false)∧Hid (wo.ownsRow w.heap.size 112 1 vo (du a bt t0 t1 r i).length ((du a bt t0 t1 r i).map (eE (.slice (some ⟨PB,0,none⟩) g.qs.length cp))))∧Hid (Below wo.heap.size wo wr)) (fun _ jx _=> (lf p).ms.length - (intOf jx).toNat)
   case atStart=> exact⟨0,by omega,rfl,(fun m hm=> by simp at hm),HQ,Below.refl _ _⟩
   case round=>
    clear HQ
    obtain⟨j,hj,rfl,HJ,HQ,HX⟩:=hrel
    have HBW:=aa (ai HW.out HX.out)
    by_cases hcj:j < (lf p).ms.length
    ·have d1:(j:Int) < (lf p).ms.length:=by omega
     have d0:(0:Int)≤j:=by omega
     obtain⟨m,hm⟩:∃ m,(lf p).ms[j]? =some m:=⟨(lf p).ms[j],bh hcj⟩
     have hmm:=aJ hm
     obtain⟨bm,om,rfl,hbm,hcm⟩:=HMC0.out (by rintro e;rw [e] at hm;cases hm)
     have g7:=ag (hcm j m hm) HBW.out
     have l7:=ar hbm HBW.out.size
     have hmod:=HO.out.toji.mods HPm.out hmm
     obtain⟨oo,hoo⟩:=HO.out.origin HPm.out hmm
     obtain⟨x,hx,f1,f2,f3,f4⟩:=H.out.get hoo
     have hox:=(aB hoo).1
     have hLx:=(H.out.ra.life rfl hx).1
     rw [f3] at hLx
     have hit:=rC (bt:=bt) (t0:=t0) (t1:=t1) hoo
     obtain⟨⟨mk,mt,ma,mb,mn,mo⟩,hmd⟩:∃ z,(lf oo).made=z:=⟨_,rfl⟩
     have HMC:=aa (hLx.made hmd)
     have CM:=aa (CM.out m (by have:=gJ hmod;omega))
     rw [hmod] at CM
     have CF:=aa (CF0.out (cE m).1)
     rw [H.out.find,eM (by have:=HLN.out;omega)] at CF
     have HHT:Hid (lZ a bt t0 t1 r p m=(!(hasT (lf p).os r) && (fS mn bt && decide (t0≤mt) && decide (mt≤t1)))):=by unfold Hid lZ;rw [hit,hmd]
     have HMM:=aa hmm
     have HM:=aa hm
     generalize(cE m).1=o1 at*
     generalize findA o1 a=o at*
     clear hm hmm hcm hbm hmod hoo hx f1 f2 f3 f4 hox hLx hit hmd hcj
     go_upto_region 11 with(first | (go_at_call 67;refine(CM.out _ HBW.out).mono ?_;rintro e w1 ⟨rfl,hbn⟩;have HX1:=aa (ai HX.out hbn);have HB1:=aa (ai HW.out HX1.out);clear hbn) | (go_at_call 57;refine(CF.out _ HB1.out).mono ?_;rintro e w2 ⟨rfl,hbn⟩;have HX2:=aa (ai HX1.out hbn);have HB2:=aa (ai HB1.out hbn);have HMC2:=aa (fun j u hj=> ag (HMC.out j u hj) HB2.out);have lP:=ar HPL.out HB2.out.size;clear hbn) | (refine wpList_load_mid rfl 29 (.tmp 53) rfl PB (o*20+3) rfl [.int .i64 mk,.int .i64 mt,.int .i64 ma,.int .i64 mb,.string mn,.string mo] _ HMC2.out Tryz.underlying29 rfl rD ?_))
     have HT3:=aa (au w2 (.cells #[.int .i64 mk,.int .i64 mt,.int .i64 ma,.int .i64 mb,.string mn,.string mo] 29))
     have HX3:=aa (ai HX2.out (bU (W:=w2) (o:=(.cells #[.int .i64 mk,.int .i64 mt,.int .i64 ma,.int .i64 mb,.string mn,.string mo] 29))))
     generalize w2.alloc (.cells #[.int .i64 mk,.int .i64 mt,.int .i64 ma,.int .i64 mb,.string mn,.string mo] 29)=w3 at*
     generalize w2.heap.size=T3 at*
     have HB3:=aa (ai HW.out HX3.out)
     have y1:=ah (o:=1) HT3.out rfl
     have y4:=ah (o:=4) HT3.out rfl
     have yl:=ak HT3.out
     have n10:=ag HL.out.open1.2.2.2.2.1 HB3.out
     have lP3:=ar HPL.out HB3.out.size
     have CH:=aa (nP (HL.out.os.step HB3.out) (by have:=HML.out.2;omega) r)
     clear HX1 HX2 HB1 HB2 HMC HMC2 lP CM CF
     by_cases h1:(mn.toList==bt.toList)=true
     rotate_left
     ·have h2:(mn.toList==bt.toList)=false:=by simpa using h1
      clear h1
      have HJ2:Hid (∀ m∈(lf p).ms.take (j+1),lZ a bt t0 t1 r p m=false):=fun m9 hm9=> by
       rw [List.take_add_one,HM.out] at hm9
       rcases List.mem_append.1 hm9 with c | c
       ·exact HJ.out m9 c
       ·obtain rfl:m9=m:=by simpa using c
        rw [HHT.out]
        simp [fS,h2]
      go_wp2_with (go_at_call 99;refine CH.out.mono ?_;rintro e w5 ⟨rfl,hw5⟩;have hw6:=hw5.symm;clear hw5;subst hw6)
      exact⟨⟨j+1,by omega,by push_cast;rfl,HJ2,HQ,HX3⟩,by simp [intOf];omega⟩
     ·by_cases h2:t0≤mt
      rotate_left
      ·have h3:mt < t0:=by omega
       have HJ2:Hid (∀ m∈(lf p).ms.take (j+1),lZ a bt t0 t1 r p m=false):=fun m9 hm9=> by
        rw [List.take_add_one,HM.out] at hm9
        rcases List.mem_append.1 hm9 with c | c
        ·exact HJ.out m9 c
        ·obtain rfl:m9=m:=by simpa using c
         rw [HHT.out]
         simp [h2]
       go_wp2_with (go_at_call 99;refine CH.out.mono ?_;rintro e w5 ⟨rfl,hw5⟩;have hw6:=hw5.symm;clear hw5;subst hw6)
       exact⟨⟨j+1,by omega,by push_cast;rfl,HJ2,HQ,HX3⟩,by simp [intOf];omega⟩
      ·by_cases h3:mt≤t1
       rotate_left
       ·have h4:t1 < mt:=by omega
        have HJ2:Hid (∀ m∈(lf p).ms.take (j+1),lZ a bt t0 t1 r p m=false):=fun m9 hm9=> by
         rw [List.take_add_one,HM.out] at hm9
         rcases List.mem_append.1 hm9 with c | c
         ·exact HJ.out m9 c
         ·obtain rfl:m9=m:=by simpa using c
          rw [HHT.out]
          simp [h3]
        go_wp2_with (go_at_call 99;refine CH.out.mono ?_;rintro e w5 ⟨rfl,hw5⟩;have hw6:=hw5.symm;clear hw5;subst hw6)
        exact⟨⟨j+1,by omega,by push_cast;rfl,HJ2,HQ,HX3⟩,by simp [intOf];omega⟩
       ·have h5:mt≥t0:=h2
        cases h4:hasT (lf p).os r
        rotate_left
        ·rw [h4] at CH
         have HJ2:Hid (∀ m∈(lf p).ms.take (j+1),lZ a bt t0 t1 r p m=false):=fun m9 hm9=> by
          rw [List.take_add_one,HM.out] at hm9
          rcases List.mem_append.1 hm9 with c | c
          ·exact HJ.out m9 c
          ·obtain rfl:m9=m:=by simpa using c
           rw [HHT.out]
           simp [h4]
         go_wp2_with (go_at_call 99;refine CH.out.mono ?_;rintro e w5 ⟨rfl,hw5⟩;have hw6:=hw5.symm;clear hw5;subst hw6)
         exact⟨⟨j+1,by omega,by push_cast;rfl,HJ2,HQ,HX3⟩,by simp [intOf];omega⟩
        ·rw [h4] at CH
         have HYS:=aa (nt HP.out (vu HMM.out (by rw [HHT.out,h4];simp [fS,h1,h2,h3])))
         have HRW:=aa (aD (aD HQ.out HX3.out) (bU (o:=.cells #[.pointer (some ⟨PB,i*20,none⟩)] 112)))
         obtain⟨i0,hi0,hz0,hz1,hz2⟩:=info_parts yV
         have HI0:=aa (ba hi0 (ba hz0 (ba hz1 hz2)))
         have HLL:=aa (Nat.le_trans (nu (a:=a) (bt:=bt) (t0:=t0) (t1:=t1) (r:=r) (i:=i)) (show i≤100 by have:=HLN.out;have:=HNP.out;have:=HCI.out;omega))
         clear hi0 hz0 hz1 hz2
         go_wp2_with (first | (go_at_call 99;refine CH.out.mono ?_;rintro e w5 ⟨rfl,hw5⟩;have hw6:=hw5.symm;clear hw5;subst hw6) | (at_builtin;refine bM _ rfl (.tmp 81) (.tmp 83) 123 rfl w.heap.size 112 i0 _ 1 8 Tryz.underlying123 HI0.out.1 HI0.out.2.1 HI0.out.2.2.1 HI0.out.2.2.2 rfl (by decide) _ (du a bt t0 t1 r i).length ((du a bt t0 t1 r i).map (eE (.slice (some ⟨PB,0,none⟩) g.qs.length cp))) rfl HRW.out (some ⟨w3.heap.size,0,none⟩) 1 1 [.pointer (some ⟨PB,i*20,none⟩)] rfl rfl dr (by intro u hu;rw [List.mem_singleton.1 hu];rfl) (by have:=HLL.out;unfold maxLen;omega) (by have:=HLL.out;omega) (by have:=HB3.out.size;simp;omega) ?_;intro v' w5 hown hgrow hat;have HO5:=aa hown;have HG5:=aa hgrow;clear hown hgrow hat))
         have HG6:Hid ((w3.alloc (.cells #[.pointer (some ⟨PB,i*20,none⟩)] 112)).grownBy w5 u11.ownBlock):=HG5
         clear HG5
         have HBF:Hid (Below w.heap.size w w5):=aa ((ai HB3.out (bU (o:=.cells #[.pointer (some ⟨PB,i*20,none⟩)] 112))).grown HG6.out (Nat.le_trans HB3.out.size (bU (W:=w3)).size) fun k hk=> (World.ownsRow.lt HRW.out k hk).1)
         have HR5:Hid (w5.ownsRow w.heap.size 112 1 v' (du a bt t0 t1 r (i+1)).length ((du a bt t0 t1 r (i+1)).map (eE (.slice (some ⟨PB,0,none⟩) g.qs.length cp)))):=by
          rw [HYS.out,cY,List.map_append,List.map_singleton,j8]
          exact HO5.out
         subst hQ
         go_wp2_with fail
         exact⟨⟨i+1,by omega,by push_cast;rfl,HR5,HBF⟩,by simp [intOf];omega⟩
    ·have HNS:=aa (lY (bt:=bt) (t0:=t0) (t1:=t1) (r:=r) HP.out (xi fun m hm=> HJ.out m (by rw [List.take_of_length_le (by omega)];exact hm)))
     have HR5:Hid (wr.ownsRow w.heap.size 112 1 u11 (du a bt t0 t1 r (i+1)).length ((du a bt t0 t1 r (i+1)).map (eE (.slice (some ⟨PB,0,none⟩) g.qs.length cp)))):=by rw [HNS.out];exact aD HQ.out HX.out
     obtain rfl:j=(lf p).ms.length:=by omega
     clear hcj
     go_wp2_with fail
     subst hQ
     go_wp2_with fail
     exact⟨⟨i+1,by omega,by push_cast;rfl,HR5,HBW⟩,by simp [intOf];omega⟩
  ·obtain rfl:i=g.qs.length:=by omega
   have e9:du a bt t0 t1 r g.qs.length=affA a bt t0 t1 r:=by rw [HLN.out];rfl
   rw [e9] at HQ
   clear hc e9
   go_wp2_with fail
   rw [Exit.noGoto_ret]
   exact bc (v:=u11) (by simp only [results,Tryz.results61];go_simp) rfl ⟨_,rfl,HQ.out,HW.out⟩
end
end Go.Proofs.YtmpilgkfbibhlaaGreatDoor
