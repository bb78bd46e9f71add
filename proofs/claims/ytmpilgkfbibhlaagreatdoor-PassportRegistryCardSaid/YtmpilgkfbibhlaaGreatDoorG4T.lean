/-
 G4T
-/
import Derived.Test.YtmpilgkfbibhlaaGreatDoorG3T
import Derived.Lib.ItoaLen
import Derived.RangeFuncNested
import Derived.RangeFuncBound
import Derived.OwnWalkIn
import Derived.TacticsInMore
import Derived.LoopNIn
import Derived.LoopIn
set_option linter.unusedSimpArgs false
set_option linter.unusedVariables false
set_option maxRecDepth 100000
set_option maxHeartbeats 20000000
namespace Go.Proofs.YtmpilgkfbibhlaaGreatDoor
section
open Go.RowKit Mr
theorem rU(i:Nat):Lib.itoa (i:Int)=Lib.decDigits i:=by
 unfold Lib.itoa
 rw [aA (by omega)]
 simp
theorem rV(i:Nat)(hi:i < 100)(w:World):Calls Tryz.prog 106 #[.int .i64 i] w fun e w'=> e=.returned (.string ⟨(Lib.itoa (i:Int)).toArray⟩)∧w'=w:=by
 rw [rU]
 exact Any.strconv_Itoa_small wF i hi w
theorem mT(i:Nat)(hi:i < 100):(Lib.itoa (i:Int)).length≤40:=by
 have:=Lib.itoa_length_le (i:Int) (by omega) (by omega)
 omega
structure oH(C:Bool→Value→World→Prop)(base:Nat)(vr:Value)(l:List ByteArray)(t:ByteArray)(b0 b1 b2 b3:Bool)(v0 v1 v2:Value)(W:World):Prop where
 s:C b3 v2 W
 r0:b0=true→v0=vr
 ow:b2=false→W.ownsRow base 9 1 vr l.length (l.map Value.string)
 r1:b1=true→∃ g,v1=.slice (some ⟨g,0,none⟩) 1 1∧(b2=false→W.heap[g]? =some (.cells #[.string t] 9 (0,0)))
 r2:b2=true→W.ownsRow base 9 1 v2 (l++[t]).length ((l++[t]).map Value.string)
 n1:b0=false→b2=false
 n2:b1=false→b2=false
 n3:b2=false→b3=false
 hb:base≤W.heap.size
section
variable {C:Bool→Value→World→Prop} {base:Nat} {vr:Value} {l:List ByteArray} {t:ByteArray} {b0 b1 b2 b3:Bool} {v0 v1 v2:Value} {W w2:World}
theorem oH.mk1(h:oH C base vr l t b0 false false false v0 v1 v2 W)(hC:∀ q v W w2,C q v W→Below W.heap.size W w2→C q v w2):
  oH C base vr l t b0 true false false v0 (.slice (some ⟨W.heap.size,0,none⟩) 1 1) v2 (W.alloc (.cells #[.string t] 9)):=
 ⟨hC _ _ _ _ h.s bU,h.r0,fun e=> aD (h.ow e) bU,fun _=> ⟨_,rfl,fun _=> au W _⟩,(fun e=> by cases e),h.n1,(fun e=> by cases e),fun _=> rfl,Nat.le_trans h.hb bU.size⟩
theorem oH.app {o:Oper} {a:Act} {K:Act→World→Prop} {Q:Exit→Act→World→Prop}
  (h:oH C base vr l t true true false false v0 v1 v2 W) (hC:∀ (v:Value) (W w2:World) (u:Value),C false v W→W.grownBy w2 u.ownBlock→(∀ k,u.ownBlock=some k→base≤k∧∃ cs,W.heap[k]? =some (.cells cs 9 (0,0)))→∀ v',C false v' w2) (hl:l.length≤1000000)
  (s p:Operand) (ho:o.op=.call { callee:=.builtin .append,args:=#[s,p],argTypes:=#[47,47] }) (hs:a.eval s=v0) (hp:a.eval p=v1)
  (hK:∀ v' W',oH C base vr l t true true true false v0 v1 v' W'→K (a.put o.dst v') W'):o.wp Tryz.prog a W K Q:=by
 obtain⟨i0,hi,hz0,hz1,hz2⟩:=info_parts ia
 obtain⟨g,rfl,hg⟩:=h.r1 rfl
 have hg2:=hg rfl
 have hown:=h.ow rfl
 have e9:=(h.r0 rfl).symm
 subst e9
 refine fc (P:=Tryz.prog) W s p 47 ho base 9 i0 (.string ⟨#[]⟩) 1 16 Tryz.underlying47 hi hz0 hz1 hz2 rfl (by decide) vr l.length (l.map Value.string) hs hown (some ⟨g,0,none⟩) 1 1 [.string t] hp rfl (fun _=> ⟨g,0,rfl,fun j u hu=> ?_⟩) (lu t) (by unfold maxLen;omega) (by omega) h.hb fun v' W' q1 q2 q3=> hK v' W' ?_
 ·have hj:j=0:=by
   have:=(aB hu).1
   simpa using this
  subst hj
  simp at hu
  rw [← hu]
  exact ah hg2 rfl
 ·refine⟨hC _ _ _ _ h.s q2 (fun k hk=> dA hown hk) _,h.r0,(fun e=> by cases e),(fun _=> ⟨g,rfl,fun e=> by cases e⟩),(fun _=> ?_),(fun e=> by cases e),(fun e=> by cases e),(fun e=> by cases e),Nat.le_trans h.hb q2.size⟩
  rw [cY,List.map_append]
  exact q1
end
def ca(name:ByteArray)(i:Nat):List ByteArray:=(List.range i).map (modN name)
theorem jP(name:ByteArray)(i:Nat):(ca name i).length=i:=by simp [ca]
theorem mU(name:ByteArray)(i:Nat):ca name i++[modN name i]=ca name (i+1):=by simp [ca,List.range_succ]
theorem t6 {T:TypeId} {B off:Nat} {name:ByteArray} {x:LifeS} {vm vo:Value} {w:World} (hT:T≠9)(h:bw T B off name x vm vo w)(hB:fE x)(t a b:Int)(nm ot:ByteArray)(hb:0≤b∧b≤32)(hnm:name.size≤1000)(hvm:vm=.slice none 0 0)(hms:x.ms=[]):
  Calls Tryz.prog 46 #[.pointer (some ⟨B,off,none⟩),.agg #[.int .i64 1,.int .i64 t,.int .i64 a,.int .i64 b,.string nm,.string ot]] w fun en w'=> en=.returned (.tuple #[])∧∃ vm' vo',jo w T B off name (x.add name (1,t,a,b,nm,ot)) vm vo vm' vo' w'∧bO T B off 18 w w':=by
 obtain⟨nb,rfl⟩:∃ nb:Nat,b=nb:=⟨b.toNat,by omega⟩
 have hnb:nb≤32:=by omega
 have HNM:=aa hnm
 subst hvm
 have HMS:=aa hms
 clear hb hms hnm
 have A0:=aa (ed h 1 t a (nb:Int) nm ot)
 have HR:=aa (ba h.ms h.os)
 have HB:=aa hB
 have hn:=hB.n
 have hw1:IntKind.i64.wrap ((x.n:Int)+1)=(x.n:Int)+1:=cC _ ⟨by omega,by omega⟩
 clear h hB hn
 go_enter Tryz.func46,Tryz.ntmps46
 go_upto_region 1 with fail
 generalize(w.alloc _)=W0 at*
 have c1:=A0.out.cell (j:=1) rfl
 have f1:=A0.out.free 1
 have lB:=A0.out.lt
 go_upto_region 2 with fail
 have A1:Hid (aQ T B off name w w.heap.size (1,t,a,(nb:Int),nm,ot) {x with n:=x.n+1} (.slice none 0 0) vo (W0.setCell ⟨B,off+1,none⟩ (.int .i64 ((x.n:Int)+1)))):=A0.out.set (j:=1) (.int .i64 ((x.n:Int)+1)) (by decide) rfl
 generalize(W0.setCell ⟨B,off+1,none⟩ _)=W1 at*
 clear A0 c1 f1 lB hw1
 obtain⟨e0,e1,e2,e3,e4,e5,el⟩:=A1.out.ev
 have c2:=A1.out.cell (j:=2) rfl
 have f2:=A1.out.free 2
 have lB:=A1.out.lt
 go_upto_region 3 with fail
 have A2:Hid (aQ T B off name w w.heap.size (1,t,a,(nb:Int),nm,ot) {x with n:=x.n+1,at_:=t} (.slice none 0 0) vo (W1.setCell ⟨B,off+2,none⟩ (.int .i64 t))):=A1.out.set (j:=2) (.int .i64 t) (by decide) rfl
 generalize(W1.setCell ⟨B,off+2,none⟩ _)=W2 at*
 clear A1 c2 f2 lB e0 e1 e2 e3 e4 e5 el
 obtain⟨e0,e1,e2,e3,e4,e5,el⟩:=A2.out.ev
 have lB:=A2.out.lt
 have c3:=A2.out.cell (j:=3) rfl
 have c4:=A2.out.cell (j:=4) rfl
 have c5:=A2.out.cell (j:=5) rfl
 have c6:=A2.out.cell (j:=6) rfl
 have c7:=A2.out.cell (j:=7) rfl
 have c8:=A2.out.cell (j:=8) rfl
 have f3:=A2.out.free 3
 have f4:=A2.out.free 4
 have f5:=A2.out.free 5
 have f6:=A2.out.free 6
 have f7:=A2.out.free 7
 have f8:=A2.out.free 8
 go_upto_region 6 with fail
 have A3:Hid (aQ T B off name w w.heap.size (1,t,a,(nb:Int),nm,ot) {x with n:=x.n+1,at_:=t,made:=(1,t,a,(nb:Int),nm,ot),ms:=x.ms} (.slice none 0 0) vo ((((((W2.setCell ⟨B,off+3,none⟩ (.int .i64 1)).setCell ⟨B,off+3+1,none⟩ (.int .i64 t)).setCell ⟨B,off+3+2,none⟩ (.int .i64 a)).setCell ⟨B,off+3+3,none⟩ (.int .i64 nb)).setCell ⟨B,off+3+4,none⟩ (.string nm)).setCell ⟨B,off+3+5,none⟩ (.string ot))):=by
  have q0:=aQ.set (x':={x with n:=x.n+1,at_:=t,made:=(1,x.made.2),ms:=x.ms}) (vm':=.slice none 0 0) (vo':=vo) A2.out (j:=3) (.int .i64 1) (by decide) rfl
  have q1:=aQ.set (x':={x with n:=x.n+1,at_:=t,made:=(1,t,x.made.2.2),ms:=x.ms}) (vm':=.slice none 0 0) (vo':=vo) q0 (j:=4) (.int .i64 t) (by decide) rfl
  have q2:=aQ.set (x':={x with n:=x.n+1,at_:=t,made:=(1,t,a,x.made.2.2.2),ms:=x.ms}) (vm':=.slice none 0 0) (vo':=vo) q1 (j:=5) (.int .i64 a) (by decide) rfl
  have q3:=aQ.set (x':={x with n:=x.n+1,at_:=t,made:=(1,t,a,(nb:Int),x.made.2.2.2.2),ms:=x.ms}) (vm':=.slice none 0 0) (vo':=vo) q2 (j:=6) (.int .i64 nb) (by decide) rfl
  have q4:=aQ.set (x':={x with n:=x.n+1,at_:=t,made:=(1,t,a,(nb:Int),nm,x.made.2.2.2.2.2),ms:=x.ms}) (vm':=.slice none 0 0) (vo':=vo) q3 (j:=7) (.string nm) (by decide) rfl
  have q5:=aQ.set (x':={x with n:=x.n+1,at_:=t,made:=(1,t,a,(nb:Int),nm,ot),ms:=x.ms}) (vm':=.slice none 0 0) (vo':=vo) q4 (j:=8) (.string ot) (by decide) rfl
  exact q5
 generalize((((((W2.setCell ⟨B,off+3,none⟩ (.int .i64 1)).setCell ⟨B,off+3+1,none⟩ (.int .i64 t)).setCell ⟨B,off+3+2,none⟩ (.int .i64 a)).setCell ⟨B,off+3+3,none⟩ (.int .i64 nb)).setCell ⟨B,off+3+4,none⟩ (.string nm)).setCell ⟨B,off+3+5,none⟩ (.string ot))=W3 at*
 clear A2 c3 c4 c5 c6 c7 c8 f3 f4 f5 f6 f7 f8 e0 e1 e2 e3 e4 e5 el lB
 replace A3:Hid (aQ T B off name w w.heap.size (1,t,a,(nb:Int),nm,ot) {x with n:=x.n+1,at_:=t,made:=(1,t,a,(nb:Int),nm,ot),ms:=(ca name 0)} (.slice none 0 0) vo W3):=by
  have q:=A3.out
  rw [HMS.out] at q
  exact q
 obtain⟨e0,e1,e2,e3,e4,e5,el⟩:=A3.out.ev
 have HO:Hid (W3.ownsRow w.heap.size 9 1 (.slice none 0 0) 0 ((ca name 0).map Value.string)):=⟨rfl,ax ⟨rfl,rfl⟩⟩
 go_wp2_with fail
 clear e0 e1 e2 e3 e4 e5 el
 go_loopw [27] (fun ix wr=> ∃ (i:Nat) (vm:Value),i≤nb∧ix=.int .i64 i∧Hid (aQ T B off name w w.heap.size (1,t,a,(nb:Int),nm,ot) {x with n:=x.n+1,at_:=t,made:=(1,t,a,(nb:Int),nm,ot),ms:=(ca name i)} vm vo wr)∧Hid (wr.ownsRow w.heap.size 9 1 vm i ((ca name i).map Value.string))) (fun ix _=> nb - (intOf ix).toNat)
 case atStart=> exact⟨0,_,by omega,rfl,A3,HO⟩
 case round=>
  clear A3 HO
  obtain⟨i,vm,hi,rfl,A,HO⟩:=hrel
  by_cases hc:i < nb
  ·have c1:(i:Int) < nb:=by omega
   have HIC:=aa (fun w=> rV i (by omega) w)
   clear hc
   have hty:(⟨(Lib.itoa (i:Int)).toArray⟩:ByteArray).size≤40:=by
    rw [Lib.size_eq]
    exact mT i (by omega)
   obtain⟨ty,hty2⟩:∃ ty:ByteArray,⟨(Lib.itoa (i:Int)).toArray⟩=ty:=⟨_,rfl⟩
   have HSN:=aa (mU name i)
   have hmn:modN name i=(name++⟨#[58]⟩)++⟨(Lib.itoa (i:Int)).toArray⟩:=rfl
   rw [hty2] at HIC hty hmn
   have q1:¬ 9223372036854775807 < name.size+1:=by have:=HNM.out;omega
   obtain⟨t1,ht1⟩:∃ t1:ByteArray,name++⟨#[58]⟩=t1:=⟨_,rfl⟩
   have st:t1.size=name.size+1:=by rw [← ht1];simp;rfl
   have q2:¬ 9223372036854775807 < t1.size+ty.size:=by have:=HNM.out;omega
   rw [ht1] at hmn
   have hlL:=jP name i
   generalize modN name i=t3 at*
   have ht3:=hmn.symm
   clear hmn hty2 st hty
   have HLL:Hid ((ca name i).length≤1000000):=by unfold Hid;rw [hlL];omega
   replace HO:Hid (wr.ownsRow w.heap.size 9 1 vm (ca name i).length ((ca name i).map Value.string)):=by unfold Hid;rw [hlL];exact HO.out
   have HLN:=aa hlL
   clear hlL
   have lB:=A.out.lt
   go_upto_region 9 with fail
   refine bo 18 14 158 [(4,34),(13,43),(14,44),(17,161)] [(none,[]),(none,[]),(none,[]),(none,[]),(some 0,[]),(none,[]),(none,[]),(none,[]),(none,[]),(none,[]),(none,[]),(none,[]),(none,[]),(some 1,[]),(some 2,[0,1]),(none,[]),(none,[]),(some 3,[2])] [(30,(.pointer (some ⟨B,off,none⟩))),(31,(.pointer (some ⟨B,off,none⟩))),(32,(.pointer (some ⟨B,off,none⟩))),(33,(.pointer (some ⟨B,off+9,none⟩))),(35,(.pointer (some ⟨B,off,none⟩))),(36,(.pointer (some ⟨B,off,none⟩))),(37,(.pointer (some ⟨B,off,none⟩))),(38,(.string name)),(39,(.string t1)),(40,(.int .i64 (i:Int))),(41,(.string ty)),(42,(.string t3)),(45,(.pointer (some ⟨B,off,none⟩))),(46,(.pointer (some ⟨B,off+9,none⟩)))] (fun bsE vsE W=> oH (fun q v W=> aQ T B off name w w.heap.size (1,t,a,(nb:Int),nm,ot) (bif q then {x with n:=x.n+1,at_:=t,made:=(1,t,a,(nb:Int),nm,ot),ms:=(ca name i++[t3])} else {x with n:=x.n+1,at_:=t,made:=(1,t,a,(nb:Int),nm,ot),ms:=(ca name i)}) (bif q then v else vm) vo W) w.heap.size vm (ca name i) t3 (bsE.getD 0 false) (bsE.getD 1 false) (bsE.getD 2 false) (bsE.getD 3 false) (vsE.getD 0 undef) (vsE.getD 1 undef) (vsE.getD 2 undef) W) (by kernel_rfl) (by kernel_rfl) rfl rfl (by kernel_rfl) (by rfl) ?h0 ?each ?done
   case h0=>
    intro vsE hlv
    obtain⟨v0,v1,v2,v3,rfl⟩:=cK hlv
    exact⟨A.out.step (Below.refl _ _).drew,(fun e=> by cases e),(fun _=> aD HO.out (Below.refl _ _).drew),(fun e=> by cases e),(fun e=> by cases e),(fun _=> rfl),(fun _=> rfl),(fun _=> rfl),A.out.only.size⟩
   case each=>
    simp only [dp]
    refine⟨⟨30,(.pointer (some ⟨B,off,none⟩)),rfl,by kernel_rfl,?_⟩,⟨31,(.pointer (some ⟨B,off,none⟩)),rfl,by kernel_rfl,?_⟩,⟨32,(.pointer (some ⟨B,off,none⟩)),rfl,by kernel_rfl,?_⟩,⟨33,(.pointer (some ⟨B,off+9,none⟩)),rfl,by kernel_rfl,?_⟩,ax ⟨34,rfl,?q1_4⟩,⟨35,(.pointer (some ⟨B,off,none⟩)),rfl,by kernel_rfl,?_⟩,⟨36,(.pointer (some ⟨B,off,none⟩)),rfl,by kernel_rfl,?_⟩,⟨37,(.pointer (some ⟨B,off,none⟩)),rfl,by kernel_rfl,?_⟩,⟨38,(.string name),rfl,by kernel_rfl,?q1_8⟩,⟨39,(.string t1),rfl,by kernel_rfl,?_⟩,⟨40,(.int .i64 (i:Int)),rfl,by kernel_rfl,?_⟩,⟨41,(.string ty),rfl,by kernel_rfl,?q1_11⟩,⟨42,(.string t3),rfl,by kernel_rfl,?_⟩,ax ⟨43,rfl,?q1_13⟩,ax ⟨44,rfl,?q1_14⟩,⟨45,(.pointer (some ⟨B,off,none⟩)),rfl,by kernel_rfl,?_⟩,⟨46,(.pointer (some ⟨B,off+9,none⟩)),rfl,by kernel_rfl,?_⟩,ay ⟨rfl,?q1_17⟩,trivial⟩
    case q1_4=>
     intro bsE vsE W hlb hlv hnd hbk h
     obtain⟨b0,b1,b2,b3,rfl⟩:=cK hlb
     obtain⟨v0,v1,v2,v3,rfl⟩:=cK hlv
     obtain rfl:b0=false:=hbk
     replace h:oH (fun q v W=> aQ T B off name w w.heap.size (1,t,a,(nb:Int),nm,ot) (bif q then {x with n:=x.n+1,at_:=t,made:=(1,t,a,(nb:Int),nm,ot),ms:=(ca name i++[t3])} else {x with n:=x.n+1,at_:=t,made:=(1,t,a,(nb:Int),nm,ot),ms:=(ca name i)}) (bif q then v else vm) vo W) w.heap.size vm (ca name i) t3 false b1 b2 b3 v0 v1 v2 W:=h
     clear hnd
     have HST:=aa h
     obtain rfl:=h.n1 rfl;obtain rfl:=h.n3 rfl;have c:=h.s.cell (j:=9) rfl;have lB:=h.s.lt
     intro K Q hK
     simp only [az,updAll,Act.put,aU,aV,aW,aX] at hK ⊢
     go_wp2_with fail
     all_goals(have hN:oH (fun q v W=> aQ T B off name w w.heap.size (1,t,a,(nb:Int),nm,ot) (bif q then {x with n:=x.n+1,at_:=t,made:=(1,t,a,(nb:Int),nm,ot),ms:=(ca name i++[t3])} else {x with n:=x.n+1,at_:=t,made:=(1,t,a,(nb:Int),nm,ot),ms:=(ca name i)}) (bif q then v else vm) vo W) w.heap.size vm (ca name i) t3 true b1 false false vm v1 v2 W:=⟨h.s,fun _=> rfl,h.ow,h.r1,h.r2,(fun e=> by cases e),h.n2,h.n3,h.hb⟩)
     all_goals(first | exact hK _ _ hN | exact hN)
    case q1_8=>
     intro bsE vsE W hlb hlv hnd h
     obtain⟨b0,b1,b2,b3,rfl⟩:=cK hlb
     obtain⟨v0,v1,v2,v3,rfl⟩:=cK hlv
     replace h:oH (fun q v W=> aQ T B off name w w.heap.size (1,t,a,(nb:Int),nm,ot) (bif q then {x with n:=x.n+1,at_:=t,made:=(1,t,a,(nb:Int),nm,ot),ms:=(ca name i++[t3])} else {x with n:=x.n+1,at_:=t,made:=(1,t,a,(nb:Int),nm,ot),ms:=(ca name i)}) (bif q then v else vm) vo W) w.heap.size vm (ca name i) t3 b0 b1 b2 b3 v0 v1 v2 W:=h
     clear hnd
     have HST:=aa h
     have c0:W.cell? ⟨B,off,none⟩=some (.string name):=h.s.cell (j:=0) rfl;have lB:=h.s.lt
     intro K Q hK
     simp only [az,updAll,Act.put,aU,aV,aW,aX] at hK ⊢
     go_wp2_with (fail)
     all_goals(first | exact hK _ (by first | exact h | exact h.step (by repeat' (first | exact Below.refl _ _ | apply aI | apply bg))) | exact(by first | exact h | exact h.step (by repeat' (first | exact Below.refl _ _ | apply aI | apply bg))))
    case q1_11=>
     intro bsE vsE W hlb hlv hnd h
     obtain⟨b0,b1,b2,b3,rfl⟩:=cK hlb
     obtain⟨v0,v1,v2,v3,rfl⟩:=cK hlv
     replace h:oH (fun q v W=> aQ T B off name w w.heap.size (1,t,a,(nb:Int),nm,ot) (bif q then {x with n:=x.n+1,at_:=t,made:=(1,t,a,(nb:Int),nm,ot),ms:=(ca name i++[t3])} else {x with n:=x.n+1,at_:=t,made:=(1,t,a,(nb:Int),nm,ot),ms:=(ca name i)}) (bif q then v else vm) vo W) w.heap.size vm (ca name i) t3 b0 b1 b2 b3 v0 v1 v2 W:=h
     clear hnd
     have HST:=aa h
     have lB:=h.s.lt
     intro K Q hK
     simp only [az,updAll,Act.put,aU,aV,aW,aX] at hK ⊢
     go_wp2_with (go_at_call 106;refine(HIC.out _).mono ?_;rintro e w7 ⟨rfl,rfl⟩)
     all_goals(first | exact hK _ (by first | exact h | exact h.step (by repeat' (first | exact Below.refl _ _ | apply aI | apply bg))) | exact(by first | exact h | exact h.step (by repeat' (first | exact Below.refl _ _ | apply aI | apply bg))))
    case q1_13=>
     intro bsE vsE W hlb hlv hnd hbk h
     obtain⟨b0,b1,b2,b3,rfl⟩:=cK hlb
     obtain⟨v0,v1,v2,v3,rfl⟩:=cK hlv
     obtain rfl:b1=false:=hbk
     replace h:oH (fun q v W=> aQ T B off name w w.heap.size (1,t,a,(nb:Int),nm,ot) (bif q then {x with n:=x.n+1,at_:=t,made:=(1,t,a,(nb:Int),nm,ot),ms:=(ca name i++[t3])} else {x with n:=x.n+1,at_:=t,made:=(1,t,a,(nb:Int),nm,ot),ms:=(ca name i)}) (bif q then v else vm) vo W) w.heap.size vm (ca name i) t3 b0 false b2 b3 v0 v1 v2 W:=h
     clear hnd
     have HST:=aa h
     obtain rfl:=h.n2 rfl;obtain rfl:=h.n3 rfl
     intro K Q hK
     simp only [az,updAll,Act.put,aU,aV,aW,aX] at hK ⊢
     go_wp2_with fail
     all_goals(have hN:=h.mk1 (fun q v W w2 h hb=> aQ.step h hb))
     all_goals(first | exact hK _ _ hN | exact hN)
    case q1_14=>
     intro bsE vsE W hlb hlv hnd hbk h
     obtain⟨b0,b1,b2,b3,rfl⟩:=cK hlb
     obtain⟨v0,v1,v2,v3,rfl⟩:=cK hlv
     obtain rfl:b0=true:=hnd 0 (by simp)
     obtain rfl:b1=true:=hnd 1 (by simp)
     obtain rfl:b2=false:=hbk
     replace h:oH (fun q v W=> aQ T B off name w w.heap.size (1,t,a,(nb:Int),nm,ot) (bif q then {x with n:=x.n+1,at_:=t,made:=(1,t,a,(nb:Int),nm,ot),ms:=(ca name i++[t3])} else {x with n:=x.n+1,at_:=t,made:=(1,t,a,(nb:Int),nm,ot),ms:=(ca name i)}) (bif q then v else vm) vo W) w.heap.size vm (ca name i) t3 true true false b3 v0 v1 v2 W:=h
     clear hnd
     have HST:=aa h
     obtain rfl:=h.n3 rfl
     intro K Q hK
     simp only [az,updAll,Act.put,aU,aV,aW,aX] at hK ⊢
     exact h.app (fun v W w2 u h hg hu v'=> aQ.grownS h hg hu) HLL.out (.tmp 34) (.tmp 43) rfl rfl rfl hK
    case q1_17=>
     intro bsE vsE W hlb hlv hnd hbk h
     obtain⟨b0,b1,b2,b3,rfl⟩:=cK hlb
     obtain⟨v0,v1,v2,v3,rfl⟩:=cK hlv
     obtain rfl:b2=true:=hnd 2 (by simp)
     obtain rfl:b3=false:=hbk
     replace h:oH (fun q v W=> aQ T B off name w w.heap.size (1,t,a,(nb:Int),nm,ot) (bif q then {x with n:=x.n+1,at_:=t,made:=(1,t,a,(nb:Int),nm,ot),ms:=(ca name i++[t3])} else {x with n:=x.n+1,at_:=t,made:=(1,t,a,(nb:Int),nm,ot),ms:=(ca name i)}) (bif q then v else vm) vo W) w.heap.size vm (ca name i) t3 b0 b1 true false v0 v1 v2 W:=h
     clear hnd
     have HST:=aa h
     obtain⟨a9,c9,e9,-⟩:=Rw.Own.get (r:=⟨9,1,_,(ca name i++[t3]).length,(ca name i++[t3]).map Value.string⟩) (h.r2 rfl);dsimp only at e9;rw [cY,List.length_singleton] at e9;subst e9;have c:=h.s.cell (j:=9) rfl;have f:=h.s.free 9;have lB:=h.s.lt
     intro K Q hK
     simp only [az,updAll,Act.put,aU,aV,aW,aX] at hK ⊢
     go_wp2_with fail
     all_goals(have hN:oH (fun q v W=> aQ T B off name w w.heap.size (1,t,a,(nb:Int),nm,ot) (bif q then {x with n:=x.n+1,at_:=t,made:=(1,t,a,(nb:Int),nm,ot),ms:=(ca name i++[t3])} else {x with n:=x.n+1,at_:=t,made:=(1,t,a,(nb:Int),nm,ot),ms:=(ca name i)}) (bif q then v else vm) vo W) w.heap.size vm (ca name i) t3 b0 b1 true true v0 v1 (.slice a9 ((ca name i).length+1) c9) (W.setCell ⟨B,off+9,none⟩ (.slice a9 ((ca name i).length+1) c9)):=⟨aQ.set h.s (j:=9) (.slice a9 _ c9) (by decide) rfl,h.r0,(fun e=> by cases e),(fun e=> by obtain⟨g,q1,q2⟩:=h.r1 e;exact⟨g,q1,(fun e=> by cases e)⟩),(fun e=> ownsRow_setCell_below (h.r2 rfl) (show B < w.heap.size from h.s.only.lt) _),(fun e=> absurd (h.n1 e) (by decide)),(fun e=> absurd (h.n2 e) (by decide)),(fun e=> by cases e),(by simpa using h.hb)⟩)
     all_goals(first | exact hK _ hN | exact hN)
    all_goals
     intro bsE vsE W hlb hlv hnd h
     obtain⟨b0,b1,b2,b3,rfl⟩:=cK hlb
     obtain⟨v0,v1,v2,v3,rfl⟩:=cK hlv
     replace h:oH (fun q v W=> aQ T B off name w w.heap.size (1,t,a,(nb:Int),nm,ot) (bif q then {x with n:=x.n+1,at_:=t,made:=(1,t,a,(nb:Int),nm,ot),ms:=(ca name i++[t3])} else {x with n:=x.n+1,at_:=t,made:=(1,t,a,(nb:Int),nm,ot),ms:=(ca name i)}) (bif q then v else vm) vo W) w.heap.size vm (ca name i) t3 b0 b1 b2 b3 v0 v1 v2 W:=h
     clear hnd
     have HST:=aa h
     have lB:=h.s.lt
     intro K Q hK
     simp only [az,updAll,Act.put,aU,aV,aW,aX] at hK ⊢
     go_wp2_with (fail)
     all_goals(first | exact hK _ (by first | exact h | exact h.step (by repeat' (first | exact Below.refl _ _ | apply aI | apply bg))) | exact(by first | exact h | exact h.step (by repeat' (first | exact Below.refl _ _ | apply aI | apply bg))))
   case done=>
    intro vsE W hlv h
    obtain⟨v0,v1,v2,v3,rfl⟩:=cK hlv
    replace h:oH (fun q v W=> aQ T B off name w w.heap.size (1,t,a,(nb:Int),nm,ot) (bif q then {x with n:=x.n+1,at_:=t,made:=(1,t,a,(nb:Int),nm,ot),ms:=(ca name i++[t3])} else {x with n:=x.n+1,at_:=t,made:=(1,t,a,(nb:Int),nm,ot),ms:=(ca name i)}) (bif q then v else vm) vo W) w.heap.size vm (ca name i) t3 true true true true v0 v1 v2 W:=h
    have HST:=aa h
    have A3:Hid (aQ T B off name w w.heap.size (1,t,a,(nb:Int),nm,ot) {x with n:=x.n+1,at_:=t,made:=(1,t,a,(nb:Int),nm,ot),ms:=(ca name (i+1))} v2 vo W):=by rw [← HSN.out];exact h.s
    have HO3:Hid (W.ownsRow w.heap.size 9 1 v2 (i+1) ((ca name (i+1)).map Value.string)):=by have q:=h.r2 rfl;rw [HSN.out,jP] at q;exact q
    clear h HST A HO lB q1 q2 ht1 ht3 HSN HIC HLL HLN
    simp only [az,updAll,Act.put,aU,aV,aW,aX]
    go_wp2_with fail
    exact⟨⟨i+1,v2,by omega,by push_cast;rfl,A3,HO3⟩,by simp [intOf];omega⟩
  ·obtain rfl:i=nb:=by omega
   clear hc hi
   go_wp2_with fail
   refine bodyPost_end (results_none rfl _ _ _) rfl ?_
   have hms:LifeS.add name x (1,t,a,(i:Int),nm,ot)={x with n:=x.n+1,at_:=t,made:=(1,t,a,(i:Int),nm,ot),ms:=(ca name i)}:=by
    unfold LifeS.add dj eG
    simp [HMS.out,ca]
   rw [hms]
   have h1:bH vm (ca name i) _:=bH.of_own (by rw [jP];exact HO.out)
   first | exact⟨rfl,⟨vm,vo,⟨A.out.done h1 (HR.out.2.only A.out.only hT),iv.of_own HO.out,ax rfl⟩⟩,A.out.only⟩ | exact⟨rfl,vm,vo,⟨A.out.done h1 (HR.out.2.only A.out.only hT),iv.of_own HO.out,ax rfl⟩,A.out.only⟩
end
section
def horner(p x:Nat)(ws:List Nat):Nat:=ws.foldl (fun s w=> (s+w)*x % p) 0
def nv(x:Nat):List Nat→Nat
 | []=> 0
 | c::cs=> (c+nv x cs)*x
theorem t7(p a c x:Nat):(a % p+c)*x % p=(a+c)*x % p:=by
 rw [Nat.mul_mod,Nat.mod_add_mod,← Nat.mul_mod]
theorem pD(p x:Nat)(rs:List Nat):horner p x rs.reverse=nv x rs % p:=by
 induction rs with
 | nil=> simp [horner,nv]
 | cons c cs ih=>
  unfold horner at ih ⊢
  rw [List.reverse_cons,List.foldl_append,ih]
  simp only [List.foldl_cons,List.foldl_nil,nv]
  rw [t7,Nat.add_comm]
theorem mV(p x:Nat)(ws:List Nat):horner p x ws=nv x ws.reverse % p:=by
 rw [← pD,List.reverse_reverse]
def powS(p x:Nat):List Nat→Nat×Nat→Nat×Nat
 | [],s=> s
 | c::cs,s=> powS p x cs ((s.1+c % p*s.2) % p,s.2*x % p)
def inn(x:Nat):List Nat→Nat
 | []=> 0
 | c::cs=> c+nv x cs
theorem t8(x:Nat)(cs:List Nat):inn x cs*x=nv x cs:=by cases cs <;> simp [inn,nv]
theorem wG(p x:Nat)(rs:List Nat):∀ (o q:Nat),(powS p x rs (o,q)).1 % p=(o+q*inn x rs) % p:=by
 induction rs with
 | nil=> intro o q;simp [powS,inn]
 | cons c cs ih=>
  intro o q
  rw [powS,ih]
  show((o+c % p*q) % p+q*x % p*inn x cs) % p=(o+q*(c+nv x cs)) % p
  rw [← t8]
  generalize inn x cs=t
  rw [Nat.mod_add_mod]
  have h1:(o+c % p*q+q*x % p*t) % p=(o+c*q+q*x*t) % p:=by
   rw [Nat.add_mod,Nat.add_mod o,Nat.mod_mul_mod,← Nat.add_mod o,Nat.mod_mul_mod,← Nat.add_mod]
  rw [h1]
  congr 1
  rw [Nat.mul_add,Nat.mul_comm c q,Nat.mul_comm t x,← Nat.mul_assoc,Nat.add_assoc]
theorem qZ {p:Nat} (hp:0 < p)(x:Nat):∀ (rs:List Nat) (s:Nat×Nat),s.1 < p→(powS p x rs s).1 < p
 | [],_,h=> h
 | _::cs,_,_=> qZ hp x cs _ (Nat.mod_lt _ hp)
theorem wH {p:Nat} (hp:0 < p)(x:Nat)(ws:List Nat):(powS p x ws.reverse (0,x)).1=horner p x ws:=by
 have h:=qZ hp x ws.reverse (0,x) hp
 rw [← Nat.mod_eq_of_lt h,wG,mV]
 rw [← t8,Nat.zero_add,Nat.mul_comm]
theorem fw {p:Nat} (hp:0 < p)(x:Nat)(ws:List Nat):horner p x ws < p:=by rw [mV];exact Nat.mod_lt _ hp
/-! Roots. -/
def ev(x:Int):List Int→Int
 | []=> 0
 | c::cs=> c+x*ev x cs
/-! Differences. -/
end
section
def bt(m:List Nat)(q:Nat):Nat:=if q < m.length then m.getD q 0 else if q=m.length then 1 else 0
def wdTo(b:Nat)(m:List Nat)(i:Nat):Nat→Nat
 | 0=> 0
 | j+1=> 256*wdTo b m i j+bt m (i*b+j)
def wd(b:Nat)(m:List Nat)(i:Nat):Nat:=wdTo b m i b
def wn(b:Nat)(m:List Nat):Nat:=m.length / b+2
def wx(b:Nat)(m:List Nat):Nat→Nat
 | 0=> 1
 | i+1=> wd b m i
def words(b:Nat)(m:List Nat):List Nat:=(List.range (wn b m)).map (wx b m)
def dig(p b x:Nat)(m:List Nat):Nat:=horner p x (words b m)
def mG(m:List Nat):Prop:=∀ k,m.getD k 0 < 256
theorem ua {m:List Nat} (h:mG m)(q:Nat):bt m q < 256:=by
 unfold bt
 split
 ·exact h q
 ·split <;> omega
theorem nR {m:List Nat} (h:mG m)(b i:Nat):∀ j,wdTo b m i j < 256 ^ j
 | 0=> by simp [wdTo]
 | j+1=> by
  have h1:=nR h b i j
  have h2:=ua h (i*b+j)
  rw [wdTo,Nat.pow_succ]
  omega
theorem zV {m:List Nat} (h:mG m){b:Nat} (hb:b≤3)(i:Nat):wd b m i < 16777216:=
 ar (nR h b i b) (Nat.pow_le_pow_right (n:=256) (by decide) hb)
theorem lw {m:List Nat} (h:mG m){b j:Nat} (hb:b≤3)(hj:j < b)(i:Nat):wdTo b m i j < 65536:=
 ar (nR h b i j) (Nat.pow_le_pow_right (n:=256) (by decide) (by omega:j≤2))
theorem yd {m:List Nat} (h:mG m){b:Nat} (hb:b≤3):∀ i,wx b m i < 16777216
 | 0=> by show 1 < 16777216;decide
 | i+1=> zV h hb i
theorem oI(p x:Nat)(ws:List Nat)(c:Nat):horner p x (ws++[c])=(horner p x ws+c)*x % p:=by
 unfold horner
 rw [List.foldl_append];rfl
theorem rW(b:Nat)(m:List Nat):(words b m).length=wn b m:=by simp [words]
end
section
open Go.Shelf
def laysM171_ren:Go.Shelf.Ren:=⟨fun | 171=> 106 | 243=> 139 | 246=> 127 | 283=> 150 | 284=> 151 | 285=> 152 | 286=> 153 | 129=> 166 | 317=> 165 | 318=> 167 | 319=> 168 | 320=> 169 | 337=> 182 | 338=> 183 | n=> n,fun | 3=> 3 | 9=> 9 | 2=> 2 | 4=> 4 | 171=> 220 | 0=> 0 | 53=> 22 | 37=> 88 | 5=> 5 | 173=> 223 | 212=> 238 | 51=> 239 | 20=> 20 | 213=> 240 | 46=> 167 | 232=> 260 | 233=> 261 | n=> n,fun | 17=> 0 | 18=> 5 | 19=> 6 | n=> n⟩
theorem ub:Go.Proofs.LaysM.n171 Tryz.prog laysM171_ren:={
 mixed:=by kernel_rfl
 f129:=Tryz.func166.trans (congrArg some (by kernel_rfl))
 f171:=Tryz.func106.trans (congrArg some (by kernel_rfl))
 f243:=Tryz.func139.trans (congrArg some (by kernel_rfl))
 f246:=Tryz.func127.trans (congrArg some (by kernel_rfl))
 f283:=Tryz.func150.trans (congrArg some (by kernel_rfl))
 f284:=Tryz.func151.trans (congrArg some (by kernel_rfl))
 f285:=Tryz.func152.trans (congrArg some (by kernel_rfl))
 f286:=Tryz.func153.trans (congrArg some (by kernel_rfl))
 f317:=Tryz.func165.trans (congrArg some (by kernel_rfl))
 f318:=Tryz.func167.trans (congrArg some (by kernel_rfl))
 f319:=Tryz.func168.trans (congrArg some (by kernel_rfl))
 f320:=Tryz.func169.trans (congrArg some (by kernel_rfl))
 f337:=Tryz.func182.trans (congrArg some (by kernel_rfl))
 f338:=Tryz.func183.trans (congrArg some (by kernel_rfl))
 t0:=Tryz.underlying0
 a0:=Tryz.isAgg0
 z0:=Tryz.sizeOf0
 v0:=Tryz.zeroValue0
 t2:=Tryz.underlying2
 a2:=Tryz.isAgg2
 z2:=Tryz.sizeOf2
 v2:=Tryz.zeroValue2
 t3:=Tryz.underlying3
 a3:=Tryz.isAgg3
 z3:=Tryz.sizeOf3
 v3:=Tryz.zeroValue3
 t4:=Tryz.underlying4
 a4:=Tryz.isAgg4
 z4:=Tryz.sizeOf4
 v4:=Tryz.zeroValue4
 t5:=Tryz.underlying5
 a5:=Tryz.isAgg5
 z5:=Tryz.sizeOf5
 v5:=Tryz.zeroValue5
 t9:=Tryz.underlying9
 a9:=Tryz.isAgg9
 z9:=Tryz.sizeOf9
 v9:=Tryz.zeroValue9
 t20:=Tryz.underlying20
 a20:=Tryz.isAgg20
 z20:=Tryz.sizeOf20
 v20:=Tryz.zeroValue20
 t37:=Tryz.underlying88
 a37:=Tryz.isAgg88
 z37:=Tryz.sizeOf88
 v37:=Tryz.zeroValue88
 t46:=Tryz.underlying167
 a46:=Tryz.isAgg167
 z46:=Tryz.sizeOf167
 v46:=Tryz.zeroValue167
 t51:=Tryz.underlying239
 a51:=Tryz.isAgg239
 z51:=Tryz.sizeOf239
 v51:=Tryz.zeroValue239
 t53:=Tryz.underlying22
 a53:=Tryz.isAgg22
 z53:=Tryz.sizeOf22
 v53:=Tryz.zeroValue22
 t171:=Tryz.underlying220
 a171:=Tryz.isAgg220
 z171:=Tryz.sizeOf220
 v171:=Tryz.zeroValue220
 t173:=Tryz.underlying223
 a173:=Tryz.isAgg223
 z173:=Tryz.sizeOf223
 v173:=Tryz.zeroValue223
 t212:=Tryz.underlying238
 a212:=Tryz.isAgg238
 z212:=Tryz.sizeOf238
 v212:=Tryz.zeroValue238
 t213:=Tryz.underlying240
 a213:=Tryz.isAgg240
 z213:=Tryz.sizeOf240
 t232:=Tryz.underlying260
 a232:=Tryz.isAgg260
 z232:=Tryz.sizeOf260
 v232:=Tryz.zeroValue260
 t233:=Tryz.underlying261
 a233:=Tryz.isAgg261
 z233:=Tryz.sizeOf261
 v233:=Tryz.zeroValue261
 g17:=by kernel_rfl
 g18:=by kernel_rfl
 g19:=by kernel_rfl
 i0:=by kernel_rfl
 i2:=by kernel_rfl
 i3:=by kernel_rfl
 i4:=by kernel_rfl
 i5:=by kernel_rfl
 i9:=by kernel_rfl
 i20:=by kernel_rfl
 i37:=by kernel_rfl
 i46:=by kernel_rfl
 i51:=by kernel_rfl
 i53:=by kernel_rfl
 i171:=by kernel_rfl
 i173:=by kernel_rfl
 i212:=by kernel_rfl
 i232:=by kernel_rfl
 i233:=by kernel_rfl
 m17:=by kernel_rfl
 m18:=by kernel_rfl
 m19:=by kernel_rfl }
def laysM179_ren:Go.Shelf.Ren:=⟨fun | 179=> 136 | 251=> 156 | 252=> 157 | 181=> 172 | 184=> 173 | 290=> 174 | 324=> 184 | n=> n,fun | 130=> 226 | 5=> 5 | 75=> 185 | 0=> 0 | 93=> 210 | 91=> 208 | 3=> 3 | 131=> 227 | 4=> 4 | 37=> 88 | 20=> 20 | 80=> 202 | 9=> 9 | n=> n,fun | 14=> 1 | n=> n⟩
theorem uc:Go.Proofs.LaysM.n179 Tryz.prog laysM179_ren:={
 mixed:=by kernel_rfl
 f179:=Tryz.func136.trans (congrArg some (by kernel_rfl))
 f181:=Tryz.func172.trans (congrArg some (by kernel_rfl))
 f184:=Tryz.func173.trans (congrArg some (by kernel_rfl))
 f251:=Tryz.func156.trans (congrArg some (by kernel_rfl))
 f252:=Tryz.func157.trans (congrArg some (by kernel_rfl))
 f290:=Tryz.func174.trans (congrArg some (by kernel_rfl))
 f324:=Tryz.func184.trans (congrArg some (by kernel_rfl))
 t0:=Tryz.underlying0
 a0:=Tryz.isAgg0
 z0:=Tryz.sizeOf0
 v0:=Tryz.zeroValue0
 t3:=Tryz.underlying3
 a3:=Tryz.isAgg3
 z3:=Tryz.sizeOf3
 v3:=Tryz.zeroValue3
 t4:=Tryz.underlying4
 a4:=Tryz.isAgg4
 z4:=Tryz.sizeOf4
 v4:=Tryz.zeroValue4
 t5:=Tryz.underlying5
 a5:=Tryz.isAgg5
 z5:=Tryz.sizeOf5
 v5:=Tryz.zeroValue5
 t20:=Tryz.underlying20
 a20:=Tryz.isAgg20
 z20:=Tryz.sizeOf20
 v20:=Tryz.zeroValue20
 t37:=Tryz.underlying88
 a37:=Tryz.isAgg88
 z37:=Tryz.sizeOf88
 v37:=Tryz.zeroValue88
 t75:=Tryz.underlying185
 a75:=Tryz.isAgg185
 z75:=Tryz.sizeOf185
 v75:=Tryz.zeroValue185
 t91:=Tryz.underlying208
 a91:=Tryz.isAgg208
 z91:=Tryz.sizeOf208
 v91:=Tryz.zeroValue208
 t93:=Tryz.underlying210
 a93:=Tryz.isAgg210
 z93:=Tryz.sizeOf210
 v93:=Tryz.zeroValue210
 t130:=Tryz.underlying226
 a130:=Tryz.isAgg226
 z130:=Tryz.sizeOf226
 v130:=Tryz.zeroValue226
 t131:=Tryz.underlying227
 a131:=Tryz.isAgg227
 z131:=Tryz.sizeOf227
 v131:=Tryz.zeroValue227
 g14:=by kernel_rfl
 t9:=Tryz.underlying9
 a9:=Tryz.isAgg9
 z9:=Tryz.sizeOf9
 v9:=Tryz.zeroValue9
 t80:=Tryz.underlying202
 a80:=Tryz.isAgg202
 z80:=Tryz.sizeOf202
 v80:=Tryz.zeroValue202
 i0:=by kernel_rfl
 i3:=by kernel_rfl
 i4:=by kernel_rfl
 i5:=by kernel_rfl
 i9:=by kernel_rfl
 i20:=by kernel_rfl
 i37:=by kernel_rfl
 i75:=by kernel_rfl
 i80:=by kernel_rfl
 i91:=by kernel_rfl
 i93:=by kernel_rfl
 i130:=by kernel_rfl
 i131:=by kernel_rfl
 m14:=by kernel_rfl }
def laysM178_ren:Go.Shelf.Ren:=⟨fun | 178=> 137 | 251=> 156 | 252=> 157 | 181=> 172 | 184=> 173 | 290=> 174 | 324=> 184 | n=> n,fun | 130=> 226 | 9=> 9 | 3=> 3 | 75=> 185 | 0=> 0 | 93=> 210 | 91=> 208 | 131=> 227 | 4=> 4 | 37=> 88 | 20=> 20 | 80=> 202 | 5=> 5 | n=> n,fun | 14=> 1 | n=> n⟩
theorem ud:Go.Proofs.LaysM.n178 Tryz.prog laysM178_ren:={
 mixed:=by kernel_rfl
 f178:=Tryz.func137.trans (congrArg some (by kernel_rfl))
 f181:=Tryz.func172.trans (congrArg some (by kernel_rfl))
 f184:=Tryz.func173.trans (congrArg some (by kernel_rfl))
 f251:=Tryz.func156.trans (congrArg some (by kernel_rfl))
 f252:=Tryz.func157.trans (congrArg some (by kernel_rfl))
 f290:=Tryz.func174.trans (congrArg some (by kernel_rfl))
 f324:=Tryz.func184.trans (congrArg some (by kernel_rfl))
 t0:=Tryz.underlying0
 a0:=Tryz.isAgg0
 z0:=Tryz.sizeOf0
 v0:=Tryz.zeroValue0
 t3:=Tryz.underlying3
 a3:=Tryz.isAgg3
 z3:=Tryz.sizeOf3
 v3:=Tryz.zeroValue3
 t4:=Tryz.underlying4
 a4:=Tryz.isAgg4
 z4:=Tryz.sizeOf4
 v4:=Tryz.zeroValue4
 t9:=Tryz.underlying9
 a9:=Tryz.isAgg9
 z9:=Tryz.sizeOf9
 v9:=Tryz.zeroValue9
 t20:=Tryz.underlying20
 a20:=Tryz.isAgg20
 z20:=Tryz.sizeOf20
 v20:=Tryz.zeroValue20
 t37:=Tryz.underlying88
 a37:=Tryz.isAgg88
 z37:=Tryz.sizeOf88
 v37:=Tryz.zeroValue88
 t75:=Tryz.underlying185
 a75:=Tryz.isAgg185
 z75:=Tryz.sizeOf185
 v75:=Tryz.zeroValue185
 t91:=Tryz.underlying208
 a91:=Tryz.isAgg208
 z91:=Tryz.sizeOf208
 v91:=Tryz.zeroValue208
 t93:=Tryz.underlying210
 a93:=Tryz.isAgg210
 z93:=Tryz.sizeOf210
 v93:=Tryz.zeroValue210
 t130:=Tryz.underlying226
 a130:=Tryz.isAgg226
 z130:=Tryz.sizeOf226
 v130:=Tryz.zeroValue226
 t131:=Tryz.underlying227
 a131:=Tryz.isAgg227
 z131:=Tryz.sizeOf227
 v131:=Tryz.zeroValue227
 g14:=by kernel_rfl
 t5:=Tryz.underlying5
 a5:=Tryz.isAgg5
 z5:=Tryz.sizeOf5
 v5:=Tryz.zeroValue5
 t80:=Tryz.underlying202
 a80:=Tryz.isAgg202
 z80:=Tryz.sizeOf202
 v80:=Tryz.zeroValue202
 i0:=by kernel_rfl
 i3:=by kernel_rfl
 i4:=by kernel_rfl
 i5:=by kernel_rfl
 i9:=by kernel_rfl
 i20:=by kernel_rfl
 i37:=by kernel_rfl
 i75:=by kernel_rfl
 i80:=by kernel_rfl
 i91:=by kernel_rfl
 i93:=by kernel_rfl
 i130:=by kernel_rfl
 i131:=by kernel_rfl
 m14:=by kernel_rfl }
def laysM183_ren:Go.Shelf.Ren:=⟨fun | 183=> 138 | n=> n,fun | 130=> 226 | 37=> 88 | 0=> 0 | 93=> 210 | 3=> 3 | 5=> 5 | 91=> 208 | n=> n,fun | n=> n⟩
theorem ue:Go.Proofs.LaysM.n183 Tryz.prog laysM183_ren:={
 mixed:=by kernel_rfl
 f183:=Tryz.func138.trans (congrArg some (by kernel_rfl))
 t0:=Tryz.underlying0
 a0:=Tryz.isAgg0
 z0:=Tryz.sizeOf0
 v0:=Tryz.zeroValue0
 t3:=Tryz.underlying3
 a3:=Tryz.isAgg3
 z3:=Tryz.sizeOf3
 v3:=Tryz.zeroValue3
 t37:=Tryz.underlying88
 a37:=Tryz.isAgg88
 z37:=Tryz.sizeOf88
 v37:=Tryz.zeroValue88
 t93:=Tryz.underlying210
 a93:=Tryz.isAgg210
 z93:=Tryz.sizeOf210
 v93:=Tryz.zeroValue210
 t130:=Tryz.underlying226
 a130:=Tryz.isAgg226
 z130:=Tryz.sizeOf226
 v130:=Tryz.zeroValue226
 t5:=Tryz.underlying5
 a5:=Tryz.isAgg5
 z5:=Tryz.sizeOf5
 v5:=Tryz.zeroValue5
 t91:=Tryz.underlying208
 a91:=Tryz.isAgg208
 z91:=Tryz.sizeOf208
 v91:=Tryz.zeroValue208
 i0:=by kernel_rfl
 i3:=by kernel_rfl
 i5:=by kernel_rfl
 i37:=by kernel_rfl
 i91:=by kernel_rfl
 i93:=by kernel_rfl
 i130:=by kernel_rfl }
def laysC172_ren:Go.Shelf.Ren:=⟨fun | 172=> 120 | 244=> 146 | 245=> 147 | 247=> 159 | 279=> 160 | 280=> 161 | 281=> 162 | 282=> 163 | 287=> 179 | 316=> 180 | 171=> 106 | 205=> 181 | 321=> 187 | 322=> 188 | 243=> 139 | 246=> 127 | 283=> 150 | 284=> 151 | 285=> 152 | 286=> 153 | 129=> 166 | 317=> 165 | 318=> 167 | 319=> 168 | 320=> 169 | 337=> 182 | 338=> 183 | n=> n,fun | 9=> 9 | 3=> 3 | 75=> 185 | 76=> 186 | 4=> 4 | 5=> 5 | 167=> 230 | 37=> 88 | 0=> 0 | 85=> 231 | 2=> 2 | 168=> 233 | 53=> 22 | 175=> 247 | 46=> 167 | 210=> 251 | 127=> 225 | 145=> 259 | 143=> 257 | 21=> 21 | 171=> 220 | 173=> 223 | 212=> 238 | 51=> 239 | 20=> 20 | 213=> 240 | 232=> 260 | 233=> 261 | 80=> 202 | n=> n,fun | 15=> 3 | 16=> 4 | 17=> 0 | 18=> 5 | 19=> 6 | n=> n⟩
theorem ly:Go.Proofs.LaysC.n172 Tryz.prog laysC172_ren:={
 mixed:=by kernel_rfl
 f129:=Tryz.func166.trans (congrArg some (by kernel_rfl))
 f171:=Tryz.func106.trans (congrArg some (by kernel_rfl))
 f172:=Tryz.func120.trans (congrArg some (by kernel_rfl))
 f205:=Tryz.func181.trans (congrArg some (by kernel_rfl))
 f243:=Tryz.func139.trans (congrArg some (by kernel_rfl))
 f244:=Tryz.func146.trans (congrArg some (by kernel_rfl))
 f245:=Tryz.func147.trans (congrArg some (by kernel_rfl))
 f246:=Tryz.func127.trans (congrArg some (by kernel_rfl))
 f247:=Tryz.func159.trans (congrArg some (by kernel_rfl))
 f279:=Tryz.func160.trans (congrArg some (by kernel_rfl))
 f280:=Tryz.func161.trans (congrArg some (by kernel_rfl))
 f281:=Tryz.func162.trans (congrArg some (by kernel_rfl))
 f282:=Tryz.func163.trans (congrArg some (by kernel_rfl))
 f283:=Tryz.func150.trans (congrArg some (by kernel_rfl))
 f284:=Tryz.func151.trans (congrArg some (by kernel_rfl))
 f285:=Tryz.func152.trans (congrArg some (by kernel_rfl))
 f286:=Tryz.func153.trans (congrArg some (by kernel_rfl))
 f287:=Tryz.func179.trans (congrArg some (by kernel_rfl))
 f316:=Tryz.func180.trans (congrArg some (by kernel_rfl))
 f317:=Tryz.func165.trans (congrArg some (by kernel_rfl))
 f318:=Tryz.func167.trans (congrArg some (by kernel_rfl))
 f319:=Tryz.func168.trans (congrArg some (by kernel_rfl))
 f320:=Tryz.func169.trans (congrArg some (by kernel_rfl))
 f321:=Tryz.func187.trans (congrArg some (by kernel_rfl))
 f322:=Tryz.func188.trans (congrArg some (by kernel_rfl))
 f337:=Tryz.func182.trans (congrArg some (by kernel_rfl))
 f338:=Tryz.func183.trans (congrArg some (by kernel_rfl))
 t0:=Tryz.underlying0
 a0:=Tryz.isAgg0
 z0:=Tryz.sizeOf0
 v0:=Tryz.zeroValue0
 t2:=Tryz.underlying2
 a2:=Tryz.isAgg2
 z2:=Tryz.sizeOf2
 v2:=Tryz.zeroValue2
 t3:=Tryz.underlying3
 a3:=Tryz.isAgg3
 z3:=Tryz.sizeOf3
 v3:=Tryz.zeroValue3
 t4:=Tryz.underlying4
 a4:=Tryz.isAgg4
 z4:=Tryz.sizeOf4
 v4:=Tryz.zeroValue4
 t5:=Tryz.underlying5
 a5:=Tryz.isAgg5
 z5:=Tryz.sizeOf5
 v5:=Tryz.zeroValue5
 t9:=Tryz.underlying9
 a9:=Tryz.isAgg9
 z9:=Tryz.sizeOf9
 v9:=Tryz.zeroValue9
 t20:=Tryz.underlying20
 a20:=Tryz.isAgg20
 z20:=Tryz.sizeOf20
 v20:=Tryz.zeroValue20
 t21:=Tryz.underlying21
 a21:=Tryz.isAgg21
 z21:=Tryz.sizeOf21
 v21:=Tryz.zeroValue21
 t37:=Tryz.underlying88
 a37:=Tryz.isAgg88
 z37:=Tryz.sizeOf88
 v37:=Tryz.zeroValue88
 t46:=Tryz.underlying167
 a46:=Tryz.isAgg167
 z46:=Tryz.sizeOf167
 v46:=Tryz.zeroValue167
 t51:=Tryz.underlying239
 a51:=Tryz.isAgg239
 z51:=Tryz.sizeOf239
 v51:=Tryz.zeroValue239
 t53:=Tryz.underlying22
 a53:=Tryz.isAgg22
 z53:=Tryz.sizeOf22
 v53:=Tryz.zeroValue22
 t75:=Tryz.underlying185
 a75:=Tryz.isAgg185
 z75:=Tryz.sizeOf185
 v75:=Tryz.zeroValue185
 t76:=Tryz.underlying186
 a76:=Tryz.isAgg186
 z76:=Tryz.sizeOf186
 v76:=Tryz.zeroValue186
 t85:=Tryz.underlying231
 a85:=Tryz.isAgg231
 z85:=Tryz.sizeOf231
 v85:=Tryz.zeroValue231
 t127:=Tryz.underlying225
 a127:=Tryz.isAgg225
 z127:=Tryz.sizeOf225
 v127:=Tryz.zeroValue225
 t143:=Tryz.underlying257
 a143:=Tryz.isAgg257
 z143:=Tryz.sizeOf257
 v143:=Tryz.zeroValue257
 t145:=Tryz.underlying259
 a145:=Tryz.isAgg259
 z145:=Tryz.sizeOf259
 v145:=Tryz.zeroValue259
 t167:=Tryz.underlying230
 a167:=Tryz.isAgg230
 z167:=Tryz.sizeOf230
 v167:=Tryz.zeroValue230
 t168:=Tryz.underlying233
 a168:=Tryz.isAgg233
 z168:=Tryz.sizeOf233
 v168:=Tryz.zeroValue233
 t171:=Tryz.underlying220
 a171:=Tryz.isAgg220
 z171:=Tryz.sizeOf220
 v171:=Tryz.zeroValue220
 t173:=Tryz.underlying223
 a173:=Tryz.isAgg223
 z173:=Tryz.sizeOf223
 v173:=Tryz.zeroValue223
 t175:=Tryz.underlying247
 a175:=Tryz.isAgg247
 z175:=Tryz.sizeOf247
 v175:=Tryz.zeroValue247
 t210:=Tryz.underlying251
 a210:=Tryz.isAgg251
 z210:=Tryz.sizeOf251
 v210:=Tryz.zeroValue251
 t212:=Tryz.underlying238
 a212:=Tryz.isAgg238
 z212:=Tryz.sizeOf238
 v212:=Tryz.zeroValue238
 t213:=Tryz.underlying240
 a213:=Tryz.isAgg240
 z213:=Tryz.sizeOf240
 t232:=Tryz.underlying260
 a232:=Tryz.isAgg260
 z232:=Tryz.sizeOf260
 v232:=Tryz.zeroValue260
 t233:=Tryz.underlying261
 a233:=Tryz.isAgg261
 z233:=Tryz.sizeOf261
 v233:=Tryz.zeroValue261
 g15:=by kernel_rfl
 g16:=by kernel_rfl
 g17:=by kernel_rfl
 g18:=by kernel_rfl
 g19:=by kernel_rfl
 t80:=Tryz.underlying202
 a80:=Tryz.isAgg202
 z80:=Tryz.sizeOf202
 v80:=Tryz.zeroValue202
 i0:=by kernel_rfl
 i2:=by kernel_rfl
 i3:=by kernel_rfl
 i4:=by kernel_rfl
 i5:=by kernel_rfl
 i9:=by kernel_rfl
 i20:=by kernel_rfl
 i21:=by kernel_rfl
 i37:=by kernel_rfl
 i46:=by kernel_rfl
 i51:=by kernel_rfl
 i53:=by kernel_rfl
 i75:=by kernel_rfl
 i76:=by kernel_rfl
 i80:=by kernel_rfl
 i85:=by kernel_rfl
 i127:=by kernel_rfl
 i143:=by kernel_rfl
 i145:=by kernel_rfl
 i167:=by kernel_rfl
 i168:=by kernel_rfl
 i171:=by kernel_rfl
 i173:=by kernel_rfl
 i175:=by kernel_rfl
 i210:=by kernel_rfl
 i212:=by kernel_rfl
 i232:=by kernel_rfl
 i233:=by kernel_rfl
 m15:=by kernel_rfl
 m16:=by kernel_rfl
 m17:=by kernel_rfl
 m18:=by kernel_rfl
 m19:=by kernel_rfl
 c0:=by kernel_rfl
 c2:=by kernel_rfl
 c3:=by kernel_rfl
 c4:=by kernel_rfl
 c5:=by kernel_rfl
 c9:=by kernel_rfl
 c20:=by kernel_rfl
 c21:=by kernel_rfl
 c37:=by kernel_rfl
 c46:=by kernel_rfl
 c51:=by kernel_rfl
 c53:=by kernel_rfl
 c75:=by kernel_rfl
 c76:=by kernel_rfl
 c80:=by kernel_rfl
 c85:=by kernel_rfl
 c127:=by kernel_rfl
 c143:=by kernel_rfl
 c145:=by kernel_rfl
 c167:=by kernel_rfl
 c168:=by kernel_rfl
 c171:=by kernel_rfl
 c173:=by kernel_rfl
 c175:=by kernel_rfl
 c210:=by kernel_rfl
 c212:=by kernel_rfl
 c213:=by kernel_rfl
 c232:=by kernel_rfl
 c233:=by kernel_rfl }
def lays219_ren:Go.Shelf.Ren:=⟨fun | 219=> 158 | 217=> 175 | 225=> 176 | 224=> 177 | 267=> 178 | 266=> 185 | 314=> 186 | n=> n,fun | 9=> 9 | 3=> 3 | 4=> 4 | 5=> 5 | 46=> 167 | 146=> 254 | 51=> 239 | n=> n,fun | 1=> 2 | n=> n⟩
theorem wI:Go.Proofs.Lays.n219 Tryz.prog lays219_ren:={
 mixed:=by kernel_rfl
 f217:=Tryz.func175.trans (congrArg some (by kernel_rfl))
 f219:=Tryz.func158.trans (congrArg some (by kernel_rfl))
 f224:=Tryz.func177.trans (congrArg some (by kernel_rfl))
 f225:=Tryz.func176.trans (congrArg some (by kernel_rfl))
 f266:=Tryz.func185.trans (congrArg some (by kernel_rfl))
 f267:=Tryz.func178.trans (congrArg some (by kernel_rfl))
 f314:=Tryz.func186.trans (congrArg some (by kernel_rfl))
 t3:=Tryz.underlying3
 a3:=Tryz.isAgg3
 z3:=Tryz.sizeOf3
 v3:=Tryz.zeroValue3
 t4:=Tryz.underlying4
 a4:=Tryz.isAgg4
 z4:=Tryz.sizeOf4
 v4:=Tryz.zeroValue4
 t5:=Tryz.underlying5
 a5:=Tryz.isAgg5
 z5:=Tryz.sizeOf5
 v5:=Tryz.zeroValue5
 t9:=Tryz.underlying9
 a9:=Tryz.isAgg9
 z9:=Tryz.sizeOf9
 v9:=Tryz.zeroValue9
 t46:=Tryz.underlying167
 a46:=Tryz.isAgg167
 z46:=Tryz.sizeOf167
 v46:=Tryz.zeroValue167
 t51:=Tryz.underlying239
 a51:=Tryz.isAgg239
 z51:=Tryz.sizeOf239
 v51:=Tryz.zeroValue239
 t146:=Tryz.underlying254
 a146:=Tryz.isAgg254
 z146:=Tryz.sizeOf254
 v146:=Tryz.zeroValue254
 g1:=by kernel_rfl }
end
section
open Go.RowKit
section
variable {F:Fence} {n:Nat} {P:Program} {ops:Array Oper} {Q:Exit→Act→World→Prop}
theorem nS {id:Nat} {a:Act} {w:World} (vals:List (Nat×Value))(hm:P.follows .mixedOrders=true)(he:early ops=true)(hH:headB ops ops.size=true)
  (hds:vals.map (fun p=> some p.1)=(List.range ops.size).map (aM ops)) (hv:fU P (updAll a vals) w.drew ops.toList) (tail:Q .normal (updAll a vals) w.drew):
  (Code.region id ops true).wpIn F n P Q a w:=by
 have hsame:∀ t,(∀ j,j < ops.size→aM ops j≠some t)→(updAll a vals).tmps[t]? =a.tmps[t]?:=fun t ht=> eW _ _ _ fun p hp e=> by
  have h1:some p.1∈vals.map (fun p=> some p.1):=List.mem_map.2 ⟨p,hp,rfl⟩
  rw [hds] at h1
  obtain⟨j,hj,hjd⟩:=List.mem_map.1 h1
  exact ht j (List.mem_range.1 hj) (by rw [hjd,e])
 have hval:∀ i o,ops[i]? =some o→qY P (updAll a vals) w.drew o:=fun i o ho=> hv.at_ i o (by rw [Array.getElem?_toList];exact ho)
 have hdf:=eu a vals
 have hsz:=eV a vals
 generalize updAll a vals=AF at*
 refine wpIn_region_any hm (mR he (fun l x w'=> l.size=ops.size∧w'=w.drew∧x.defers=a.defers∧x.tmps.size=a.tmps.size∧(∀ j,j < ops.size→l.getD j false=true→∀ t,aM ops j=some t→x.tmps[t]? =AF.tmps[t]?)∧
  (∀ t,(∀ j,j < ops.size→aM ops j=some t→l.getD j false=false)→x.tmps[t]? =a.tmps[t]?)) (fun l a w h=> h.1) ?_ ?_ ops.size _ _ _ ?_ (by rw [lm];exact bz _))
 ·rintro i o ho l x w' ⟨hls,rfl,x1,x2,x3,x4⟩ hl hd
  have hi:i < ops.size:=(Array.getElem?_eq_some_iff.1 ho).1
  have hH':=qX hH hi ho
  obtain⟨d,v,hd1,hd2,hd3,hd4⟩:=hval i o ho
  have hw:=gp ho hd
  have hdi:aM ops i=some d:=by unfold aM;rw [ho];exact hd1
  have hev:∀ y∈o.op.operands,x.eval y=AF.eval y:=by
   intro y hy
   refine gq fun t ht=> ?_
   subst ht
   by_cases hc:∃ j,j < ops.size∧aM ops j=some t
   ·obtain⟨j,hj,hjt⟩:=hc
    exact x3 j hj (hw j (hH'.looks t hy j hj hjt)) t hjt
   ·have hno:∀ j,j < ops.size→aM ops j≠some t:=fun j hj e=> hc ⟨j,hj,e⟩
    rw [x4 t (fun j hj e=> absurd e (hno j hj)),hsame t hno]
  have hex:=execOp_congr o hH'.sel hev
  have hab:=about_congr (P:=P) o w.drew hev
  unfold wpOpIn
  rw [ho]
  simp only [Region.wanted,hH'.guard,if_true]
  unfold Oper.wpIn
  rw [Oper.semAt_eq _ _ _ hH'.dfr,hex,hd3,hab,hd4]
  refine⟨fun f hf=> (by cases hf),?_⟩
  rw [Oper.uponIn_value,hd1]
  have hil:i < l.size:=by rw [hls];exact hi
  refine⟨by simpa using hls,rfl,x1,by simpa [Act.put] using x2,?_,?_⟩
  ·intro j hj hjl t hjt
   simp only [Act.put]
   rw [Array.getElem?_setIfInBounds]
   by_cases e:d=t
   ·subst e
    have hlt:d < x.tmps.size:=by rw [x2,← hsz];exact(Array.getElem?_eq_some_iff.1 hd2).1
    rw [aG rfl,aG hlt,hd2]
   ·rw [aA e]
    have hji:j≠i:=fun c=> by subst c;rw [hdi] at hjt;exact e (bD hjt)
    rw [aZ hil,aA (fun c=> hji c.symm)] at hjl
    exact x3 j hj hjl t hjt
  ·intro t ht
   simp only [Act.put]
   rw [Array.getElem?_setIfInBounds]
   have hdt:d≠t:=fun c=> by
    subst c
    have:=ht i hi hdi
    rw [aZ hil,aG rfl] at this
    cases this
   rw [aA hdt]
   refine x4 t fun j hj hjt=> ?_
   have:=ht j hj hjt
   rw [aZ hil] at this
   split at this
   ·cases this
   ·exact this
 ·rintro l x w' ⟨hls,rfl,x1,x2,x3,x4⟩ hall
  have hx:x=AF:=by
   obtain⟨xt,xd⟩:=x
   obtain⟨ft,fd⟩:=AF
   dsimp only at*
   have e1:xt=ft:=by
    refine Array.ext_getElem? fun t=> ?_
    by_cases hc:∃ j,j < ops.size∧aM ops j=some t
    ·obtain⟨j,hj,hjt⟩:=hc
     exact x3 j hj (kX (by omega) (hall j hj)) t hjt
    ·have hno:∀ j,j < ops.size→aM ops j≠some t:=fun j hj e=> hc ⟨j,hj,e⟩
     rw [x4 t (fun j hj e=> absurd e (hno j hj)),hsame t hno]
   rw [e1,x1,hdf]
  rw [hx]
  exact tail
 ·refine⟨by simp,rfl,rfl,rfl,fun j hj h=> ?_,fun _ _=> rfl⟩
  rw [Array.getD_eq_getD_getElem?] at h
  simp [hj] at h
end
end
section
open Go.RowKit Go.Shelf
attribute [local go_sem] Oper.semAt_some
def fF(s n₀:Nat)(A B:World):Prop:=∀ k,k < n₀→k≠s→B.heap[k]? =A.heap[k]?
theorem fF.refl(s n₀:Nat)(A:World):fF s n₀ A A:=fun _ _ _=> rfl
theorem fF.trans {s n₀:Nat} {A B C:World} (h:fF s n₀ A B)(k:fF s n₀ B C):fF s n₀ A C:=fun i hi hs=> (k i hi hs).trans (h i hi hs)
theorem fF.of_below {s n₀:Nat} {A B:World} (h:Below n₀ A B):fF s n₀ A B:=fun i hi _=> h.block i hi
theorem fF.cell {s n₀:Nat} {A B:World} (h:fF s n₀ A B){p:Addr} (hp:p.block < n₀∧p.block≠s):B.cell? p=A.cell? p:=World.cell?_of_block (h _ hp.1 hp.2)
def jp(a:Option Addr)(m:List Nat)(s n₀:Nat)(W:World):Prop:=m≠[]→∃ b off,a=some ⟨b,off,none⟩∧(b < n₀∧b≠s)∧∀ k,k < m.length→W.cell? ⟨b,off+k,none⟩=some (.int .u8 (m.getD k 0))
theorem jp.at_ {a:Option Addr} {m:List Nat} {s n₀:Nat} {W:World} (h:jp a m s n₀ W){k:Nat} (hk:k < m.length):∃ b off,a=some ⟨b,off,none⟩∧(b < n₀∧b≠s)∧W.cell? ⟨b,off+k,none⟩=some (.int .u8 (m.getD k 0)):=by
 obtain⟨b,off,rfl,h1,h2⟩:=h (fun e=> by rw [e] at hk;simp at hk)
 exact⟨b,off,rfl,h1,h2 k hk⟩
theorem jp.keep {a:Option Addr} {m:List Nat} {s n₀:Nat} {W w2:World} (h:jp a m s n₀ W)(hb:fF s n₀ W w2):jp a m s n₀ w2:=fun hn=> by
 obtain⟨b,off,rfl,h1,h2⟩:=h hn
 exact⟨b,off,rfl,h1,fun k hk=> (hb.cell (p:=⟨b,off+k,none⟩) h1).trans (h2 k hk)⟩
theorem yw(v c:Nat)(hc:c < 256):v*256 ||| c=256*v+c:=by
 have:=Nat.shiftLeft_add_eq_or_of_lt (i:=8) (b:=c) (by omega) v
 rw [Nat.shiftLeft_eq] at this
 rw [Nat.mul_comm 256 v]
 exact this.symm
theorem uf(v c:Nat)(hv:v < 65536)(hc:c < 256):bits .or .u64 ((v:Int)*256) (c:Int)=((256*v+c:Nat):Int):=by
 rw [show((v:Int)*256)=((v*256:Nat):Int) by omega,u64_or_nat _ _ (by omega) (by omega),yw v c hc]
theorem pF(v:Nat)(hv:v < 65536):bits .or .u64 ((v:Int)*256) 1=((256*v+1:Nat):Int):=uf v 1 hv (by decide)
theorem rX(F:Fence)(n:Nat)(hf:F.fn 134)(hro:F.round=none)(hn:1≤n)(l Bm Bf bf off s n₀ cap b:Nat)(a:Option Addr)(m:List Nat)(hb1:1≤b)(hb3:b≤3)(hB:mG m)(hlen:m.length≤2000)
  (hBm:Bm < n₀∧Bm≠s) (hBf:Bf < n₀∧Bf≠s) (hbf:bf < n₀∧bf≠s) (J Jx:List Nat→World→Prop)
  (hY:∀ pre x W,J pre W→pre.length < wn b m→YieldAt F (n - 1) Tryz.prog l #[.int .u64 (wx b m x)] W fun e W'=> (e=.returned (.bool true)∧J (pre++[x]) W'∧fF s n₀ W W')∨(e=.returned (.bool false)∧Jx (pre++[x]) W')) (hJd:∀ pre W,J pre W→J pre W.drew)
  (W:World) (hM:W.cell? ⟨Bm,0,none⟩=some (.slice a m.length cap)) (hF:W.cell? ⟨Bf,0,none⟩=some (.pointer (some ⟨bf,off,none⟩))) (hP:W.cell? ⟨bf,off+1,none⟩=some (.int .i64 b))
  (hA:jp a m s n₀ W) (h0:J [] W):
  CallsIn F n Tryz.prog 134 #[.func (.yield l) #[] #[],.pointer (some ⟨Bm,0,none⟩),.pointer (some ⟨Bf,0,none⟩)] W fun e W'=> (∃ v,e=.returned v)∧
   ((∃ zs,zs=List.range (wn b m)∧J zs W')∨(∃ pre,(∃ k,k≤wn b m∧pre=List.range k)∧Jx pre W')):=by
 refine callsIn_of_wp Tryz.func134 rfl hf ?_ hro
 simp only [Tryz.ntmps134,List.size_toArray,List.length_cons,List.length_nil,Nat.reduceAdd,Nat.reduceSub,Array.replicate_succ,Array.replicate_zero,List.push_toArray,List.append_toArray,List.nil_append,List.cons_append]
 obtain⟨fn,tmps,assign,body,hy,hR⟩:=hY [] 0 W h0 (by unfold wn;simp)
 have hwx:((wx b m 0:Nat):Int)=1:=rfl
 rw [hwx] at hy
 gi_wp2
 refine hR.mono ?_
 rintro e W3 (⟨rfl,hJ3,hk3⟩ | ⟨rfl,hJx3⟩)
 ·gi_wp2
  replace hM:=(hk3.cell (p:=⟨Bm,0,none⟩) hBm).trans hM
  replace hF:=(hk3.cell (p:=⟨Bf,0,none⟩) hBf).trans hF
  replace hP:=(hk3.cell (p:=⟨bf,off+1,none⟩) hbf).trans hP
  replace hA:=hA.keep hk3
  clear hR hy h0
  gi_loopw [4,5,6] (fun i _ _ wr=> ∃ k:Nat,k≤m.length / b+1∧i=.int .i64 k∧J (List.range (k+1)) wr∧fF s n₀ W3 wr) (fun i _ _ _=> m.length / b+1 - (intOf i).toNat)
  case atStart=> exact⟨0,Nat.zero_le _,rfl,hJ3,fF.refl _ _ _⟩
  case round=>
   obtain⟨k,hk,rfl,hJs,hnx⟩:=hrel
   have c0:=(hnx.cell (p:=⟨Bm,0,none⟩) hBm).trans hM
   have c1:=(hnx.cell (p:=⟨Bf,0,none⟩) hBf).trans hF
   have c2:=(hnx.cell (p:=⟨bf,off+1,none⟩) hbf).trans hP
   have cA:=hA.keep hnx
   clear hM hF hP hA hwx
   have hdiv:((m.length / b:Nat):Int)=(m.length:Int) / b:=rfl
   have hdl:m.length / b≤2000:=Nat.le_trans (Nat.div_le_self _ _) hlen
   have hwl:wn b m=m.length / b+2:=rfl
   gi_wp2
   refine nS [(10,(.int .i64 k)),(11,(.slice a m.length cap)),(12,(.int .i64 m.length)),(13,(.pointer (some ⟨bf,off,none⟩))),(14,(.pointer (some ⟨bf,off,none⟩))),(15,(.pointer (some ⟨bf,off+1,none⟩))),(16,(.int .i64 b)),(17,(.int .i64 (m.length / b:Nat))),(18,(.bool (decide ((k:Int)≤(m.length / b:Nat)))))] (by kernel_rfl) (by kernel_rfl) (by kernel_rfl) (by rfl) ?vals ?tail
   case vals=>
    simp only [updAll,Act.put,List.setIfInBounds_toArray,List.set_cons_zero,List.set_cons_succ,fU]
    refine⟨?_,?_,?_,?_,?_,?_,?_,?_,?_,trivial⟩
    all_goals(refine⟨_,_,rfl,rfl,?_,?_⟩ <;> go_simp)
    rw [aA (by omega),cC _ ⟨by generalize m.length / b=q at*;omega,by generalize m.length / b=q at*;omega⟩]
   case tail=>
    simp only [updAll,Act.put,List.setIfInBounds_toArray,List.set_cons_zero,List.set_cons_succ]
    clear hdiv
    generalize hq:m.length / b=q at*
    by_cases hlt:k≤q
    ·have hlt':(k:Int)≤(q:Int):=by omega
     have hw2:wdTo b m k b=wx b m (k+1):=rfl
     have hnx2:∀ j,wdTo b m k (j+1)=256*wdTo b m k j+bt m (k*b+j):=fun j=> rfl
     have hkb:k*b≤6000:=Nat.le_trans (Nat.mul_le_mul (show k≤2000 by omega) hb3) (by decide)
     have e1:(k:Int)*(b:Int)=((k*b:Nat):Int):=by push_cast;rfl
     have e2:((k:Int)+1)*(b:Int)=((k*b:Nat):Int)+b:=by rw [Int.add_mul,e1,Int.one_mul]
     generalize k*b=t at*
     gi_wp2
     gi_loopw [5,6] (fun v p w2=> ∃ j:Nat,j≤b∧v=.int .u64 (wdTo b m k j)∧p=.int .i64 (t+j)∧w2=wr.drew) (fun _ p _=> t+b - (intOf p).toNat)
     case atStart=> exact⟨0,Nat.zero_le _,rfl,by first | rfl | simp,rfl⟩
     case round=>
      obtain⟨j,hj,rfl,rfl,rfl⟩:=hrel
      by_cases hjb:j < b
      ·have hs:=lw hB hb3 hjb k
       have hn2:=hnx2 j
       have hbl:=ua hB (t+j)
       rcases Nat.lt_trichotomy (t+j) m.length with h1 | h1 | h1
       ·obtain⟨bm,om,rfl,hbm,hcm⟩:=cA.at_ h1
        have hbt:bt m (t+j)=m.getD (t+j) 0:=by unfold bt;rw [aG h1]
        rw [hbt] at hn2 hbl
        have hor:=uf _ _ hs hbl
        have e3:((t:Int)+j)=((t+j:Nat):Int):=by push_cast;rfl
        have e4:((t+j:Nat):Int)+1=(t:Int)+((j+1:Nat):Int):=by push_cast;omega
        rw [e3]
        rw [← hn2] at hor
        generalize m.getD (t+j) 0=c at*
        generalize hv:wdTo b m k j=v at*
        generalize hv2:wdTo b m k (j+1)=v2 at*
        generalize t+j=r at*
        gi_wp2
        go_roundw
        case rel=> exact⟨j+1,by omega,congrArg _ (by omega),congrArg _ (by omega),by first | trivial | rfl⟩
        case measure=> simp [intOf];omega
       ·have hbt:bt m (t+j)=1:=by unfold bt;rw [aA (by omega),aG h1]
        rw [hbt] at hn2
        have hor:=pF _ hs
        rw [← hn2] at hor
        have h1':(t:Int)+j=m.length:=by omega
        have e4:(m.length:Int)+1=(t:Int)+((j+1:Nat):Int):=by push_cast;omega
        generalize hv:wdTo b m k j=v at*
        generalize hv2:wdTo b m k (j+1)=v2 at*
        rw [h1']
        generalize m.length=r at*
        gi_wp2
        go_roundw
        case rel=> exact⟨j+1,by omega,congrArg _ (by omega),congrArg _ (by omega),by first | trivial | rfl⟩
        case measure=> simp [intOf];omega
       ·have hbt:bt m (t+j)=0:=by unfold bt;rw [aA (by omega),aA (by omega)]
        rw [hbt] at hn2
        have hor:((256*wdTo b m k j+0:Nat):Int)=(wdTo b m k j:Int)*256:=by push_cast;omega
        rw [← hn2] at hor
        have h1':(m.length:Int) < (t:Int)+j:=by omega
        generalize hv:wdTo b m k j=v at*
        generalize hv2:wdTo b m k (j+1)=v2 at*
        gi_wp2
        go_roundw
        case rel=> exact⟨j+1,by omega,congrArg _ (by omega),congrArg _ (by omega),by first | trivial | rfl⟩
        case measure=> simp [intOf];omega
      ·obtain rfl:j=b:=by omega
       obtain⟨fn,tmps,assign,body,hy,hR⟩:=hY (List.range (k+1)) (k+1) wr.drew (hJd _ _ hJs) (by rw [List.length_range];omega)
       rw [hw2]
       gi_wp2
       refine hR.mono ?_
       rintro e W4 (⟨rfl,hJ4,hk4⟩ | ⟨rfl,hJx4⟩)
       ·gi_wp2
        go_roundw
        case rel=> exact⟨k+1,by omega,by go_num,by rw [List.range_succ];exact hJ4,hnx.trans ((show fF s n₀ wr wr.drew from fun _ _ _=> rfl).trans hk4)⟩
        case measure=> (simp [intOf];omega)
       ·gi_wp2
        refine bc (results_none rfl _ _ _) rfl ?_
        exact⟨⟨_,rfl⟩,.inr ⟨_,⟨k+2,by omega,List.range_succ.symm⟩,hJx4⟩⟩
    ·have hlt':(q:Int) < (k:Int):=by omega
     gi_wp2
     obtain rfl:k=q+1:=by omega
     go_end0
     exact⟨⟨_,rfl⟩,.inl ⟨_,rfl,by rw [hwl];exact hJd _ _ hJs⟩⟩
 ·gi_wp2
  refine bc (results_none rfl _ _ _) rfl ?_
  exact⟨⟨_,rfl⟩,.inr ⟨_,⟨1,by unfold wn;generalize m.length / b=q;omega,rfl⟩,hJx3⟩⟩
theorem words_stops(F:Fence)(n:Nat)(hf:F.fn 134)(hro:F.round=none)(hn:1≤n)(Bm Bf bf off s n₀ cap b:Nat)(a:Option Addr)(m:List Nat)(hb1:1≤b)(hb3:b≤3)(hB:mG m)(hlen:m.length≤2000)
  (hBm:Bm < n₀∧Bm≠s) (hBf:Bf < n₀∧Bf≠s) (hbf:bf < n₀∧bf≠s) (w:World) (hnw:n₀≤w.heap.size)
  (hM:w.cell? ⟨Bm,0,none⟩=some (.slice a m.length cap)) (hF:w.cell? ⟨Bf,0,none⟩=some (.pointer (some ⟨bf,off,none⟩))) (hP:w.cell? ⟨bf,off+1,none⟩=some (.int .i64 b)) (hA:jp a m s n₀ w):
  SeqStopsK F n Tryz.prog 134 #[.pointer (some ⟨Bm,0,none⟩),.pointer (some ⟨Bf,0,none⟩)] (fun x=> #[.int .u64 (wx b m x)]) (fF s n₀) (fun l=> l=List.range (wn b m)) (fun pre=> ∃ k,k≤wn b m∧pre=List.range k) (wn b m) w:=fun l J Jx W hW hJ _ hYY h0=> by
 have hW0:fF s n₀ w W:=fF.of_below (hW.mono hnw)
 exact rX F n hf hro hn l Bm Bf bf off s n₀ cap b a m hb1 hb3 hB hlen hBm hBf hbf J Jx hYY (fun pre W1 h=> hJ pre W1 W1.drew none h ⟨rfl,rfl,rfl,bz _,fun _ _ _=> rfl⟩ (fun r e=> by cases e)) W
  ((hW0.cell (p:=⟨Bm,0,none⟩) hBm).trans hM) ((hW0.cell (p:=⟨Bf,0,none⟩) hBf).trans hF) ((hW0.cell (p:=⟨bf,off+1,none⟩) hbf).trans hP) (hA.keep hW0) h0
theorem ug(F:Fence)(n:Nat)(hf:F.fn 96)(hro:F.round=none)(f:Option Addr)(a:Option Addr)(len cap:Nat)(w:World):
  CallsIn F n Tryz.prog 96 #[.pointer f,.slice a len cap] w fun e w'=> e=.returned (.func (.func 134) #[] #[.pointer (some ⟨w.heap.size+1,0,none⟩),.pointer (some ⟨w.heap.size,0,none⟩)])∧
   w'=(w.alloc (.cells #[.pointer f] 95)).alloc (.cells #[.slice a len cap] 88):=by
 refine callsIn_of_wp Tryz.func96 rfl hf ?_ hro
 simp only [Tryz.ntmps96,List.size_toArray,List.length_cons,List.length_nil,Nat.reduceAdd,Nat.reduceSub,Array.replicate_succ,Array.replicate_zero,List.push_toArray,List.append_toArray,List.nil_append,List.cons_append]
 gi_wp2
 go_ret
 exact⟨by simp,rfl⟩
end
end Go.Proofs.YtmpilgkfbibhlaaGreatDoor
