/-
 G8T
-/
import Derived.Test.YtmpilgkfbibhlaaGreatDoorG7T
set_option linter.unusedSimpArgs false
set_option linter.unusedVariables false
set_option maxRecDepth 100000
set_option maxHeartbeats 20000000
namespace Go.Proofs.YtmpilgkfbibhlaaGreatDoor
section
open Sx Go.RowKit
def eB:List Value:=[(.string ⟨#[]⟩),(.int .i64 0),(.int .i64 0),(.int .i64 0),.nilFunc,.nilFunc,(.string ⟨#[109,97,100,101]⟩),(.int .i64 1),(.int .i64 4294967296),(.int .i64 32),(.func (.func 39) #[] #[]),(.func (.func 91) #[] #[]),(.string ⟨#[117,115,101]⟩),(.int .i64 0),(.int .i64 1099511627776),(.int .i64 1099511627776),(.func (.func 91) #[] #[]),(.func (.func 91) #[] #[]),(.string ⟨#[116,101,115,116]⟩),(.int .i64 0),(.int .i64 4294967296),(.int .i64 0),(.func (.func 91) #[] #[]),(.func (.func 91) #[] #[]),(.string ⟨#[102,97,117,108,116]⟩),(.int .i64 1),(.int .i64 12),(.int .i64 0),(.func (.func 91) #[] #[]),(.func (.func 91) #[] #[]),(.string ⟨#[112,117,116]⟩),(.int .i64 0),(.int .i64 0),(.int .i64 0),(.func (.func 126) #[] #[]),(.func (.func 39) #[] #[]),(.string ⟨#[116,97,107,101]⟩),(.int .i64 0),(.int .i64 0),(.int .i64 0),(.func (.func 126) #[] #[]),(.func (.func 39) #[] #[]),(.string ⟨#[114,101,99,97,108,108]⟩),(.int .i64 0),(.int .i64 0),(.int .i64 0),(.func (.func 39) #[] #[]),(.func (.func 91) #[] #[]),(.string ⟨#[99,108,101,97,114]⟩),(.int .i64 0),(.int .i64 0),(.int .i64 0),(.func (.func 39) #[] #[]),(.func (.func 91) #[] #[]),(.string ⟨#[115,99,114,97,112]⟩),(.int .i64 0),(.int .i64 0),(.int .i64 0),(.func (.func 91) #[] #[]),(.func (.func 91) #[] #[])]
theorem mZ:eB.toArray.all (·.oneCell')=true:=by kernel_rfl
theorem lC:(Tryz.prog.info? 197).map (·.size)=some eB.toArray.size:=by kernel_rfl
theorem gC {w:World} {cs:Array Value} {T:TypeId} {n:Nat} (h:cs.size=n):(w.alloc (.cells cs T)).there w.heap.size 0 n:=fun j hj=> by
 rw [Nat.zero_add]
 have hb:=au w (.cells cs T)
 have hv:cs[j]? =some (cs[j]'(by omega)):=Array.getElem?_eq_getElem (by omega)
 exact⟨by rw [ah hb hv];rfl,aR hb⟩
theorem fJ {N b:Nat} {w:World}:∀ (vs:List Value) (o:Nat) {W:World},Below N w W→N≤b→Below N w (W.setCells b o vs)
 | [],_,_,h,_=> h
 | v::vs,o,_,h,hb=> fJ vs (o+1) (h.setCell (p:=⟨b,o,none⟩) hb v) hb
theorem setCells_size {b:Nat}:∀ (vs:List Value) (o:Nat) (W:World),(W.setCells b o vs).heap.size=W.heap.size
 | [],_,_=> rfl
 | v::vs,o,W=> by
  show((W.setCell ⟨b,o,none⟩ v).setCells b (o+1) vs).heap.size=_
  rw [setCells_size vs (o+1)]
  simp
def iL(B:Nat)(W:World):Prop:=B < W.heap.size∧∀ (j:Nat) (u:Value),eB[j]? =some u→W.cell? ⟨B,j,none⟩=some u
theorem iL.new {w:World} {cs:Array Value} {T:TypeId} (h:cs.size=60):iL w.heap.size ((w.alloc (.cells cs T)).setCells w.heap.size 0 eB):=by
 refine⟨by rw [setCells_size];simp,fun j u hj=> ?_⟩
 have:=World.rangeAt_setCells_same (w.alloc (.cells cs T)) w.heap.size 0 eB (gC h) j u hj
 rwa [Nat.zero_add] at this
theorem iL.step {B:Nat} {W w2:World} (h:iL B W)(hb:Below W.heap.size W w2):iL B w2:=⟨ar h.1 hb.size,fun j u hj=> ag (h.2 j u hj) hb⟩
theorem na(k:Nat)(hk:1≤k∧k≤9)(w:World):Calls Tryz.prog 87 #[.int .i64 (k:Int)] w fun en w'=> ∃ B,en=.returned (.pointer (some ⟨B,k*6,none⟩))∧iL B w'∧Below w.heap.size w w':=by
 have h1:¬ (k:Int) < 1:=by omega
 have h2:¬ (k:Int)≥10:=by omega
 have h3:(0:Int)≤k:=by omega
 have h4:(k:Int) < 10:=by omega
 go_enter Tryz.func87,Tryz.ntmps87
 go_upto_region 2 with(refine wpList_store_mid rfl 197 (.tmp 3) (.tmp 13) rfl w.heap.size 0 eB.toArray rfl rfl (gC rfl) lC mZ ?_)
 have hF:iL w.heap.size ((w.alloc (.cells #[.string ⟨#[]⟩,.int .i64 0,.int .i64 0,.int .i64 0,.nilFunc,.nilFunc,.string ⟨#[]⟩,.int .i64 0,.int .i64 0,.int .i64 0,.nilFunc,.nilFunc,.string ⟨#[]⟩,.int .i64 0,.int .i64 0,.int .i64 0,.nilFunc,.nilFunc,.string ⟨#[]⟩,.int .i64 0,.int .i64 0,.int .i64 0,.nilFunc,.nilFunc,.string ⟨#[]⟩,.int .i64 0,.int .i64 0,.int .i64 0,.nilFunc,.nilFunc,.string ⟨#[]⟩,.int .i64 0,.int .i64 0,.int .i64 0,.nilFunc,.nilFunc,.string ⟨#[]⟩,.int .i64 0,.int .i64 0,.int .i64 0,.nilFunc,.nilFunc,.string ⟨#[]⟩,.int .i64 0,.int .i64 0,.int .i64 0,.nilFunc,.nilFunc,.string ⟨#[]⟩,.int .i64 0,.int .i64 0,.int .i64 0,.nilFunc,.nilFunc,.string ⟨#[]⟩,.int .i64 0,.int .i64 0,.int .i64 0,.nilFunc,.nilFunc] 197)).setCells w.heap.size 0 eB):=iL.new rfl
 have hB:Below w.heap.size w ((w.alloc (.cells #[.string ⟨#[]⟩,.int .i64 0,.int .i64 0,.int .i64 0,.nilFunc,.nilFunc,.string ⟨#[]⟩,.int .i64 0,.int .i64 0,.int .i64 0,.nilFunc,.nilFunc,.string ⟨#[]⟩,.int .i64 0,.int .i64 0,.int .i64 0,.nilFunc,.nilFunc,.string ⟨#[]⟩,.int .i64 0,.int .i64 0,.int .i64 0,.nilFunc,.nilFunc,.string ⟨#[]⟩,.int .i64 0,.int .i64 0,.int .i64 0,.nilFunc,.nilFunc,.string ⟨#[]⟩,.int .i64 0,.int .i64 0,.int .i64 0,.nilFunc,.nilFunc,.string ⟨#[]⟩,.int .i64 0,.int .i64 0,.int .i64 0,.nilFunc,.nilFunc,.string ⟨#[]⟩,.int .i64 0,.int .i64 0,.int .i64 0,.nilFunc,.nilFunc,.string ⟨#[]⟩,.int .i64 0,.int .i64 0,.int .i64 0,.nilFunc,.nilFunc,.string ⟨#[]⟩,.int .i64 0,.int .i64 0,.int .i64 0,.nilFunc,.nilFunc] 197)).setCells w.heap.size 0 eB):=fJ eB 0 (aK (Below.refl _ _) _) (bz _)
 generalize World.setCells (w.alloc (.cells #[.string ⟨#[]⟩,.int .i64 0,.int .i64 0,.int .i64 0,.nilFunc,.nilFunc,.string ⟨#[]⟩,.int .i64 0,.int .i64 0,.int .i64 0,.nilFunc,.nilFunc,.string ⟨#[]⟩,.int .i64 0,.int .i64 0,.int .i64 0,.nilFunc,.nilFunc,.string ⟨#[]⟩,.int .i64 0,.int .i64 0,.int .i64 0,.nilFunc,.nilFunc,.string ⟨#[]⟩,.int .i64 0,.int .i64 0,.int .i64 0,.nilFunc,.nilFunc,.string ⟨#[]⟩,.int .i64 0,.int .i64 0,.int .i64 0,.nilFunc,.nilFunc,.string ⟨#[]⟩,.int .i64 0,.int .i64 0,.int .i64 0,.nilFunc,.nilFunc,.string ⟨#[]⟩,.int .i64 0,.int .i64 0,.int .i64 0,.nilFunc,.nilFunc,.string ⟨#[]⟩,.int .i64 0,.int .i64 0,.int .i64 0,.nilFunc,.nilFunc,.string ⟨#[]⟩,.int .i64 0,.int .i64 0,.int .i64 0,.nilFunc,.nilFunc] 197)) w.heap.size 0 eB=W1 at*
 go_wp2_with fail
 exact bc (v:=.pointer (some ⟨w.heap.size,k*6,none⟩)) (by simp only [results,Tryz.results87];go_simp) rfl ⟨_,rfl,hF,hB⟩
theorem se(k:Int)(hk:¬ (1≤k∧k≤9))(w:World):Calls Tryz.prog 87 #[.int .i64 k] w fun en w'=> en=.returned (.pointer none)∧Below w.heap.size w w':=by
 have hc:k < 1∨(¬ k < 1∧k≥10):=by omega
 clear hk
 rcases hc with h1 | ⟨h1,h2⟩
 all_goals
  go_enter Tryz.func87,Tryz.ntmps87
  go_upto_region 2 with(refine wpList_store_mid rfl 197 (.tmp 3) (.tmp 13) rfl w.heap.size 0 eB.toArray rfl rfl (gC rfl) lC mZ ?_)
  have hB:Below w.heap.size w ((w.alloc (.cells #[.string ⟨#[]⟩,.int .i64 0,.int .i64 0,.int .i64 0,.nilFunc,.nilFunc,.string ⟨#[]⟩,.int .i64 0,.int .i64 0,.int .i64 0,.nilFunc,.nilFunc,.string ⟨#[]⟩,.int .i64 0,.int .i64 0,.int .i64 0,.nilFunc,.nilFunc,.string ⟨#[]⟩,.int .i64 0,.int .i64 0,.int .i64 0,.nilFunc,.nilFunc,.string ⟨#[]⟩,.int .i64 0,.int .i64 0,.int .i64 0,.nilFunc,.nilFunc,.string ⟨#[]⟩,.int .i64 0,.int .i64 0,.int .i64 0,.nilFunc,.nilFunc,.string ⟨#[]⟩,.int .i64 0,.int .i64 0,.int .i64 0,.nilFunc,.nilFunc,.string ⟨#[]⟩,.int .i64 0,.int .i64 0,.int .i64 0,.nilFunc,.nilFunc,.string ⟨#[]⟩,.int .i64 0,.int .i64 0,.int .i64 0,.nilFunc,.nilFunc,.string ⟨#[]⟩,.int .i64 0,.int .i64 0,.int .i64 0,.nilFunc,.nilFunc] 197)).setCells w.heap.size 0 eB):=fJ eB 0 (aK (Below.refl _ _) _) (bz _)
  generalize World.setCells (w.alloc (.cells #[.string ⟨#[]⟩,.int .i64 0,.int .i64 0,.int .i64 0,.nilFunc,.nilFunc,.string ⟨#[]⟩,.int .i64 0,.int .i64 0,.int .i64 0,.nilFunc,.nilFunc,.string ⟨#[]⟩,.int .i64 0,.int .i64 0,.int .i64 0,.nilFunc,.nilFunc,.string ⟨#[]⟩,.int .i64 0,.int .i64 0,.int .i64 0,.nilFunc,.nilFunc,.string ⟨#[]⟩,.int .i64 0,.int .i64 0,.int .i64 0,.nilFunc,.nilFunc,.string ⟨#[]⟩,.int .i64 0,.int .i64 0,.int .i64 0,.nilFunc,.nilFunc,.string ⟨#[]⟩,.int .i64 0,.int .i64 0,.int .i64 0,.nilFunc,.nilFunc,.string ⟨#[]⟩,.int .i64 0,.int .i64 0,.int .i64 0,.nilFunc,.nilFunc,.string ⟨#[]⟩,.int .i64 0,.int .i64 0,.int .i64 0,.nilFunc,.nilFunc,.string ⟨#[]⟩,.int .i64 0,.int .i64 0,.int .i64 0,.nilFunc,.nilFunc] 197)) w.heap.size 0 eB=W1 at*
  go_wp2_with fail
  exact aH (v:=.pointer none) rfl rfl rfl ⟨rfl,hB⟩
end
section
open Sx Go.RowKit
def pJ(t:Int):Bool:=bif decide (t≥0)then decide (t≤1099511627776)else false
theorem uz(t:Int)(w:World):Calls Tryz.prog 60 #[.int .i64 t] w fun en w'=> en=.returned (.bool (pJ t))∧Below w.heap.size w w':=by
 have hw:(pJ t=false∧¬ t≥0)∨(t≥0∧pJ t=false∧¬ t≤1099511627776)∨(t≥0∧t≤1099511627776∧pJ t=true):=by
  unfold pJ
  by_cases h0:t≥0
  ·by_cases h1:t≤1099511627776
   ·exact ay (ay ⟨h0,h1,by rw [bF h0,bF h1];rfl⟩)
   ·exact ay (ax ⟨h0,by rw [bF h0,bv h1];rfl,h1⟩)
  ·exact ax ⟨by rw [bv h0];rfl,h0⟩
 rcases hw with⟨e,h0⟩ | ⟨h0,e,h1⟩ | ⟨h0,h1,e⟩
 all_goals
  rw [e]
  go_enter Tryz.func60,Tryz.ntmps60
  go_wp2_with fail
  exact bc (v:=.bool _) (by simp only [results,Tryz.results60];go_simp) rfl ⟨rfl,(by repeat' (first | exact Below.refl _ _ | assumption | apply aI | apply bg | apply aK | (refine cB ?_ ?_ _) | (refine ai ?_ (by assumption)) | omega | (simp <;> omega)))⟩
theorem dL {least fa fb:Int} {FN FO:FuncId} {p q:Bool} (n:Nat)(hn:1≤n∧n≤9)(t a b:Int)(nm ot:ByteArray)(w:World)
  (k1:eB[n*6+1]? =some (.int .i64 least)) (k2:eB[n*6+2]? =some (.int .i64 fa)) (k3:eB[n*6+3]? =some (.int .i64 fb)) (k4:eB[n*6+4]? =some (.func (.func FN) #[] #[])) (k5:eB[n*6+5]? =some (.func (.func FO) #[] #[]))
  (eN:∀ W:World,(callFunc FN #[.string nm]).run Tryz.prog W=.ok (.enter FN #[.string nm]) W) (eO:∀ W:World,(callFunc FO #[.string ot]).run Tryz.prog W=.ok (.enter FO #[.string ot]) W)
  (hN:∀ W,Below w.heap.size w W→Calls Tryz.prog FN #[.string nm] W fun e w'=> e=.returned (.bool p)∧Below W.heap.size W w') (hO:∀ W,Below w.heap.size w W→Calls Tryz.prog FO #[.string ot] W fun e w'=> e=.returned (.bool q)∧Below W.heap.size W w'):
  Calls Tryz.prog 42 #[.agg #[.int .i64 (n:Int),.int .i64 t,.int .i64 a,.int .i64 b,.string nm,.string ot]] w fun e w'=> e=.returned (.int .i64 (bif dH least fa fb t a b p q then 2 else 0))∧Below w.heap.size w w':=by
 have HN:=aa hN
 have HO:=aa hO
 have HB0:Hid (Below w.heap.size w (w.alloc (.cells #[.int .i64 (n:Int),.int .i64 t,.int .i64 a,.int .i64 b,.string nm,.string ot] 29))):=aK (Below.refl _ _) _
 have HX:=aa (au w (.cells #[.int .i64 (n:Int),.int .i64 t,.int .i64 a,.int .i64 b,.string nm,.string ot] 29))
 have CF:=aa (na n hn)
 clear hN hO
 have hw:(pJ t=false∧dH least fa fb t a b p q=true)∨(pJ t=true∧a < least∧dH least fa fb t a b p q=true)∨(pJ t=true∧¬ a < least∧a > fa∧dH least fa fb t a b p q=true)∨(pJ t=true∧¬ a < least∧¬ a > fa∧b < 0∧dH least fa fb t a b p q=true)∨(pJ t=true∧¬ a < least∧¬ a > fa∧¬ b < 0∧b > fb∧dH least fa fb t a b p q=true)∨
   (pJ t=true∧¬ a < least∧¬ a > fa∧¬ b < 0∧¬ b > fb∧p=false∧dH least fa fb t a b p q=true)∨(pJ t=true∧¬ a < least∧¬ a > fa∧¬ b < 0∧¬ b > fb∧p=true∧q=false∧dH least fa fb t a b p q=true)∨(pJ t=true∧¬ a < least∧¬ a > fa∧¬ b < 0∧¬ b > fb∧p=true∧q=true∧dH least fa fb t a b p q=false):=by
  have hd:dH least fa fb t a b p q=(bif !(pJ t)then true else bif decide (a < least)then true else bif decide (a > fa)then true else bif decide (b < 0)then true else bif decide (b > fb)then true else bif !p then true else !q):=rfl
  rw [hd]
  cases pJ t
  ·exact ax ⟨rfl,rfl⟩
  by_cases c1:a < least
  ·exact ay (ax ⟨rfl,c1,by rw [bF c1];rfl⟩)
  by_cases c2:a > fa
  ·exact ay (ay (ax ⟨rfl,c1,c2,by rw [bv c1,bF c2];rfl⟩))
  by_cases c3:b < 0
  ·exact ay (ay (ay (ax ⟨rfl,c1,c2,c3,by rw [bv c1,bv c2,bF c3];rfl⟩)))
  by_cases c4:b > fb
  ·exact ay (ay (ay (ay (ax ⟨rfl,c1,c2,c3,c4,by rw [bv c1,bv c2,bv c3,bF c4];rfl⟩))))
  cases p
  ·exact ay (ay (ay (ay (ay (ax ⟨rfl,c1,c2,c3,c4,rfl,by rw [bv c1,bv c2,bv c3,bv c4];rfl⟩)))))
  cases q
  ·exact ay (ay (ay (ay (ay (ay (ax ⟨rfl,c1,c2,c3,c4,rfl,rfl,by rw [bv c1,bv c2,bv c3,bv c4];rfl⟩))))))
  ·exact ay (ay (ay (ay (ay (ay (ay ⟨rfl,c1,c2,c3,c4,rfl,rfl,by rw [bv c1,bv c2,bv c3,bv c4];rfl⟩))))))
 rcases hw with⟨e0,hr⟩ | ⟨e0,c1,hr⟩ | ⟨e0,c1,c2,hr⟩ | ⟨e0,c1,c2,c3,hr⟩ | ⟨e0,c1,c2,c3,c4,hr⟩ | ⟨e0,c1,c2,c3,c4,rfl,hr⟩ | ⟨e0,c1,c2,c3,c4,rfl,rfl,hr⟩ | ⟨e0,c1,c2,c3,c4,rfl,rfl,hr⟩
 all_goals
  rw [hr]
  have CT:=aa (uz t)
  rw [e0] at CT
  clear hr e0
  go_enter Tryz.func42,Tryz.ntmps42
  go_upto_region 1 with fail
  generalize w.alloc (.cells #[.int .i64 (n:Int),.int .i64 t,.int .i64 a,.int .i64 b,.string nm,.string ot] 29)=W0 at*
  have x0:=ah (o:=0) HX.out rfl
  have xl:=ak HX.out
  go_upto_region 2 with(go_at_call 87;refine(CF.out _).mono ?_;rintro e w1 ⟨B,rfl,hF,hb⟩;have HF:=aa hF;have HB2:=aa hb;clear hF hb)
  have HBW:=aa (ai HB0.out HB2.out)
  have g:=fun(s:aC w1) (j:Nat) (u:Value) (hj:eB[j]? =some u)=> ag (HF.out.2 j u hj) s.2
  have f1:=fun s:aC w1=> g s _ _ k1
  have f2:=fun s:aC w1=> g s _ _ k2
  have f3:=fun s:aC w1=> g s _ _ k3
  have f4:=fun s:aC w1=> g s _ _ k4
  have f5:=fun s:aC w1=> g s _ _ k5
  have fl:=fun s:aC w1=> ar HF.out.1 s.2.size
  have y1:=fun s:aC w1=> ag (ah (o:=1) (an HX.out HB2.out) rfl) s.2
  have y2:=fun s:aC w1=> ag (ah (o:=2) (an HX.out HB2.out) rfl) s.2
  have y3:=fun s:aC w1=> ag (ah (o:=3) (an HX.out HB2.out) rfl) s.2
  have y4:=fun s:aC w1=> ag (ah (o:=4) (an HX.out HB2.out) rfl) s.2
  have y5:=fun s:aC w1=> ag (ah (o:=5) (an HX.out HB2.out) rfl) s.2
  have yl:=fun s:aC w1=> ar (ak (an HX.out HB2.out)) s.2.size
  have CC:=aa (fun s:aC w1=> dy s (CT.out s.1))
  have CN:=aa (fun s:aC w1=> dy s (HN.out s.1 (ai HBW.out s.2)))
  have CO:=aa (fun s:aC w1=> dy s (HO.out s.1 (ai HBW.out s.2)))
  clear g x0 xl CF CT
 ·(first | (have d1:decide (a < least)=true:=bF (by omega)) | (have d1:decide (a < least)=false:=bv (by omega)) | (have d1:=trivial))
  (first | (have d2:decide (fa < a)=true:=bF (by omega)) | (have d2:decide (fa < a)=false:=bv (by omega)) | (have d2:=trivial))
  (first | (have d3:decide (b < 0)=true:=bF (by omega)) | (have d3:decide (b < 0)=false:=bv (by omega)) | (have d3:=trivial))
  (first | (have d4:decide (fb < b)=true:=bF (by omega)) | (have d4:decide (fb < b)=false:=bv (by omega)) | (have d4:=trivial))
  refine aF (by kernel_rfl) (by kernel_rfl) ?_
  repeat(first | (refine WQ.skip rfl rfl rfl rfl ?_;simp only [Act.put,aU,aV,aW,aX]) | ((first | (apply WQ.val;(exact rfl)) | (apply WQ.valg;(exact rfl);(exact rfl);(exact rfl)));(intro w9 hw9;obtain⟨s9,rfl⟩:=hw9;simp [go_sem,eN,eO,f1,f2,f3,f4,f5,fl,y1,y2,y3,y4,y5,yl,d1,d2,d3,d4];first | done | exact rfl | (with_reducible exact CC.out s9) | (with_reducible exact CN.out s9) | (with_reducible exact CO.out s9));simp only [Act.put,aU,aV,aW,aX]))
  refine WQ.fin fun W5 hb5=> ?_
  go_wp2_with fail
  exact bc (v:=.int .i64 _) (by simp only [results,Tryz.results42];go_simp) rfl ⟨rfl,ai HBW.out hb5⟩
 ·(first | (have d1:decide (a < least)=true:=bF (by omega)) | (have d1:decide (a < least)=false:=bv (by omega)) | (have d1:=trivial))
  (first | (have d2:decide (fa < a)=true:=bF (by omega)) | (have d2:decide (fa < a)=false:=bv (by omega)) | (have d2:=trivial))
  (first | (have d3:decide (b < 0)=true:=bF (by omega)) | (have d3:decide (b < 0)=false:=bv (by omega)) | (have d3:=trivial))
  (first | (have d4:decide (fb < b)=true:=bF (by omega)) | (have d4:decide (fb < b)=false:=bv (by omega)) | (have d4:=trivial))
  refine aF (by kernel_rfl) (by kernel_rfl) ?_
  repeat(first | (refine WQ.skip rfl rfl rfl rfl ?_;simp only [Act.put,aU,aV,aW,aX]) | ((first | (apply WQ.val;(exact rfl)) | (apply WQ.valg;(exact rfl);(exact rfl);(exact rfl)));(intro w9 hw9;obtain⟨s9,rfl⟩:=hw9;simp [go_sem,eN,eO,f1,f2,f3,f4,f5,fl,y1,y2,y3,y4,y5,yl,d1,d2,d3,d4];first | done | exact rfl | (with_reducible exact CC.out s9) | (with_reducible exact CN.out s9) | (with_reducible exact CO.out s9));simp only [Act.put,aU,aV,aW,aX]))
  refine WQ.fin fun W5 hb5=> ?_
  go_wp2_with fail
  exact bc (v:=.int .i64 _) (by simp only [results,Tryz.results42];go_simp) rfl ⟨rfl,ai HBW.out hb5⟩
 ·(first | (have d1:decide (a < least)=true:=bF (by omega)) | (have d1:decide (a < least)=false:=bv (by omega)) | (have d1:=trivial))
  (first | (have d2:decide (fa < a)=true:=bF (by omega)) | (have d2:decide (fa < a)=false:=bv (by omega)) | (have d2:=trivial))
  (first | (have d3:decide (b < 0)=true:=bF (by omega)) | (have d3:decide (b < 0)=false:=bv (by omega)) | (have d3:=trivial))
  (first | (have d4:decide (fb < b)=true:=bF (by omega)) | (have d4:decide (fb < b)=false:=bv (by omega)) | (have d4:=trivial))
  refine aF (by kernel_rfl) (by kernel_rfl) ?_
  repeat(first | (refine WQ.skip rfl rfl rfl rfl ?_;simp only [Act.put,aU,aV,aW,aX]) | ((first | (apply WQ.val;(exact rfl)) | (apply WQ.valg;(exact rfl);(exact rfl);(exact rfl)));(intro w9 hw9;obtain⟨s9,rfl⟩:=hw9;simp [go_sem,eN,eO,f1,f2,f3,f4,f5,fl,y1,y2,y3,y4,y5,yl,d1,d2,d3,d4];first | done | exact rfl | (with_reducible exact CC.out s9) | (with_reducible exact CN.out s9) | (with_reducible exact CO.out s9));simp only [Act.put,aU,aV,aW,aX]))
  refine WQ.fin fun W5 hb5=> ?_
  go_wp2_with fail
  exact bc (v:=.int .i64 _) (by simp only [results,Tryz.results42];go_simp) rfl ⟨rfl,ai HBW.out hb5⟩
 ·(first | (have d1:decide (a < least)=true:=bF (by omega)) | (have d1:decide (a < least)=false:=bv (by omega)) | (have d1:=trivial))
  (first | (have d2:decide (fa < a)=true:=bF (by omega)) | (have d2:decide (fa < a)=false:=bv (by omega)) | (have d2:=trivial))
  (first | (have d3:decide (b < 0)=true:=bF (by omega)) | (have d3:decide (b < 0)=false:=bv (by omega)) | (have d3:=trivial))
  (first | (have d4:decide (fb < b)=true:=bF (by omega)) | (have d4:decide (fb < b)=false:=bv (by omega)) | (have d4:=trivial))
  refine aF (by kernel_rfl) (by kernel_rfl) ?_
  repeat(first | (refine WQ.skip rfl rfl rfl rfl ?_;simp only [Act.put,aU,aV,aW,aX]) | ((first | (apply WQ.val;(exact rfl)) | (apply WQ.valg;(exact rfl);(exact rfl);(exact rfl)));(intro w9 hw9;obtain⟨s9,rfl⟩:=hw9;simp [go_sem,eN,eO,f1,f2,f3,f4,f5,fl,y1,y2,y3,y4,y5,yl,d1,d2,d3,d4];first | done | exact rfl | (with_reducible exact CC.out s9) | (with_reducible exact CN.out s9) | (with_reducible exact CO.out s9));simp only [Act.put,aU,aV,aW,aX]))
  refine WQ.fin fun W5 hb5=> ?_
  go_wp2_with fail
  exact bc (v:=.int .i64 _) (by simp only [results,Tryz.results42];go_simp) rfl ⟨rfl,ai HBW.out hb5⟩
 ·(first | (have d1:decide (a < least)=true:=bF (by omega)) | (have d1:decide (a < least)=false:=bv (by omega)) | (have d1:=trivial))
  (first | (have d2:decide (fa < a)=true:=bF (by omega)) | (have d2:decide (fa < a)=false:=bv (by omega)) | (have d2:=trivial))
  (first | (have d3:decide (b < 0)=true:=bF (by omega)) | (have d3:decide (b < 0)=false:=bv (by omega)) | (have d3:=trivial))
  (first | (have d4:decide (fb < b)=true:=bF (by omega)) | (have d4:decide (fb < b)=false:=bv (by omega)) | (have d4:=trivial))
  refine aF (by kernel_rfl) (by kernel_rfl) ?_
  repeat(first | (refine WQ.skip rfl rfl rfl rfl ?_;simp only [Act.put,aU,aV,aW,aX]) | ((first | (apply WQ.val;(exact rfl)) | (apply WQ.valg;(exact rfl);(exact rfl);(exact rfl)));(intro w9 hw9;obtain⟨s9,rfl⟩:=hw9;simp [go_sem,eN,eO,f1,f2,f3,f4,f5,fl,y1,y2,y3,y4,y5,yl,d1,d2,d3,d4];first | done | exact rfl | (with_reducible exact CC.out s9) | (with_reducible exact CN.out s9) | (with_reducible exact CO.out s9));simp only [Act.put,aU,aV,aW,aX]))
  refine WQ.fin fun W5 hb5=> ?_
  go_wp2_with fail
  exact bc (v:=.int .i64 _) (by simp only [results,Tryz.results42];go_simp) rfl ⟨rfl,ai HBW.out hb5⟩
 ·(first | (have d1:decide (a < least)=true:=bF (by omega)) | (have d1:decide (a < least)=false:=bv (by omega)) | (have d1:=trivial))
  (first | (have d2:decide (fa < a)=true:=bF (by omega)) | (have d2:decide (fa < a)=false:=bv (by omega)) | (have d2:=trivial))
  (first | (have d3:decide (b < 0)=true:=bF (by omega)) | (have d3:decide (b < 0)=false:=bv (by omega)) | (have d3:=trivial))
  (first | (have d4:decide (fb < b)=true:=bF (by omega)) | (have d4:decide (fb < b)=false:=bv (by omega)) | (have d4:=trivial))
  refine aF (by kernel_rfl) (by kernel_rfl) ?_
  repeat(first | (refine WQ.skip rfl rfl rfl rfl ?_;simp only [Act.put,aU,aV,aW,aX]) | ((first | (apply WQ.val;(exact rfl)) | (apply WQ.valg;(exact rfl);(exact rfl);(exact rfl)));(intro w9 hw9;obtain⟨s9,rfl⟩:=hw9;simp [go_sem,eN,eO,f1,f2,f3,f4,f5,fl,y1,y2,y3,y4,y5,yl,d1,d2,d3,d4];first | done | exact rfl | (with_reducible exact CC.out s9) | (with_reducible exact CN.out s9) | (with_reducible exact CO.out s9));simp only [Act.put,aU,aV,aW,aX]))
  refine WQ.fin fun W5 hb5=> ?_
  go_wp2_with fail
  exact bc (v:=.int .i64 _) (by simp only [results,Tryz.results42];go_simp) rfl ⟨rfl,ai HBW.out hb5⟩
 ·(first | (have d1:decide (a < least)=true:=bF (by omega)) | (have d1:decide (a < least)=false:=bv (by omega)) | (have d1:=trivial))
  (first | (have d2:decide (fa < a)=true:=bF (by omega)) | (have d2:decide (fa < a)=false:=bv (by omega)) | (have d2:=trivial))
  (first | (have d3:decide (b < 0)=true:=bF (by omega)) | (have d3:decide (b < 0)=false:=bv (by omega)) | (have d3:=trivial))
  (first | (have d4:decide (fb < b)=true:=bF (by omega)) | (have d4:decide (fb < b)=false:=bv (by omega)) | (have d4:=trivial))
  refine aF (by kernel_rfl) (by kernel_rfl) ?_
  repeat(first | (refine WQ.skip rfl rfl rfl rfl ?_;simp only [Act.put,aU,aV,aW,aX]) | ((first | (apply WQ.val;(exact rfl)) | (apply WQ.valg;(exact rfl);(exact rfl);(exact rfl)));(intro w9 hw9;obtain⟨s9,rfl⟩:=hw9;simp [go_sem,eN,eO,f1,f2,f3,f4,f5,fl,y1,y2,y3,y4,y5,yl,d1,d2,d3,d4];first | done | exact rfl | (with_reducible exact CC.out s9) | (with_reducible exact CN.out s9) | (with_reducible exact CO.out s9));simp only [Act.put,aU,aV,aW,aX]))
  refine WQ.fin fun W5 hb5=> ?_
  go_wp2_with fail
  exact bc (v:=.int .i64 _) (by simp only [results,Tryz.results42];go_simp) rfl ⟨rfl,ai HBW.out hb5⟩
 ·(first | (have d1:decide (a < least)=true:=bF (by omega)) | (have d1:decide (a < least)=false:=bv (by omega)) | (have d1:=trivial))
  (first | (have d2:decide (fa < a)=true:=bF (by omega)) | (have d2:decide (fa < a)=false:=bv (by omega)) | (have d2:=trivial))
  (first | (have d3:decide (b < 0)=true:=bF (by omega)) | (have d3:decide (b < 0)=false:=bv (by omega)) | (have d3:=trivial))
  (first | (have d4:decide (fb < b)=true:=bF (by omega)) | (have d4:decide (fb < b)=false:=bv (by omega)) | (have d4:=trivial))
  refine aF (by kernel_rfl) (by kernel_rfl) ?_
  repeat(first | (refine WQ.skip rfl rfl rfl rfl ?_;simp only [Act.put,aU,aV,aW,aX]) | ((first | (apply WQ.val;(exact rfl)) | (apply WQ.valg;(exact rfl);(exact rfl);(exact rfl)));(intro w9 hw9;obtain⟨s9,rfl⟩:=hw9;simp [go_sem,eN,eO,f1,f2,f3,f4,f5,fl,y1,y2,y3,y4,y5,yl,d1,d2,d3,d4];first | done | exact rfl | (with_reducible exact CC.out s9) | (with_reducible exact CN.out s9) | (with_reducible exact CO.out s9));simp only [Act.put,aU,aV,aW,aX]))
  refine WQ.fin fun W5 hb5=> ?_
  go_wp2_with fail
  exact bc (v:=.int .i64 _) (by simp only [results,Tryz.results42];go_simp) rfl ⟨rfl,ai HBW.out hb5⟩
theorem nc(k t a b:Int)(nm ot:ByteArray)(w:World)(hG:dn w)(h1:nm.size≤1000000)(h2:ot.size≤1000000):
  Calls Tryz.prog 42 #[.agg #[.int .i64 k,.int .i64 t,.int .i64 a,.int .i64 b,.string nm,.string ot]] w fun e w'=> e=.returned (.int .i64 (bif gy k t a b nm ot then 0 else 2))∧Below w.heap.size w w':=by
 by_cases hk:1≤k∧k≤9
 ·have e:(bif gy k t a b nm ot then(0:Int)else 2)=(bif gx k t a b nm ot then 2 else 0):=by
   unfold gy
   rw [bF ⟨hk.1,hk.2,h1,h2⟩]
   cases gx k t a b nm ot <;> rfl
  rw [e]
  have HG:=hG
  have CI:=fun(s:ByteArray) (hs:s.size≤1000000) W (_:Below w.heap.size w W)=> eR s W (by omega)
  have CM:=fun W (hW:Below w.heap.size w W)=> pH nm W h1 (dV hG hW)
  have CE:=fun(s:ByteArray) W (_:Below w.heap.size w W)=> empty_any s W
  have hc:k=(1:Nat)∨k=(2:Nat)∨k=(3:Nat)∨k=(4:Nat)∨k=(5:Nat)∨k=(6:Nat)∨k=(7:Nat)∨k=(8:Nat)∨k=(9:Nat):=by omega
  rcases hc with rfl | rfl | rfl | rfl | rfl | rfl | rfl | rfl | rfl
  ·exact dL 1 (by decide) t a b nm ot w rfl rfl rfl rfl rfl (fun W=> rfl) (fun W=> rfl) (CI nm h1) (CE ot)
  ·exact dL 2 (by decide) t a b nm ot w rfl rfl rfl rfl rfl (fun W=> rfl) (fun W=> rfl) (CE nm) (CE ot)
  ·exact dL 3 (by decide) t a b nm ot w rfl rfl rfl rfl rfl (fun W=> rfl) (fun W=> rfl) (CE nm) (CE ot)
  ·exact dL 4 (by decide) t a b nm ot w rfl rfl rfl rfl rfl (fun W=> rfl) (fun W=> rfl) (CE nm) (CE ot)
  ·exact dL 5 (by decide) t a b nm ot w rfl rfl rfl rfl rfl (fun W=> rfl) (fun W=> rfl) CM (CI ot h2)
  ·exact dL 6 (by decide) t a b nm ot w rfl rfl rfl rfl rfl (fun W=> rfl) (fun W=> rfl) CM (CI ot h2)
  ·exact dL 7 (by decide) t a b nm ot w rfl rfl rfl rfl rfl (fun W=> rfl) (fun W=> rfl) (CI nm h1) (CE ot)
  ·exact dL 8 (by decide) t a b nm ot w rfl rfl rfl rfl rfl (fun W=> rfl) (fun W=> rfl) (CI nm h1) (CE ot)
  ·exact dL 9 (by decide) t a b nm ot w rfl rfl rfl rfl rfl (fun W=> rfl) (fun W=> rfl) (CE nm) (CE ot)
 ·have e:gy k t a b nm ot=false:=by
   unfold gy
   rw [bv (by omega)]
   rfl
  rw [e]
  have CF:=aa (se k hk)
  have HB0:Hid (Below w.heap.size w (w.alloc (.cells #[.int .i64 k,.int .i64 t,.int .i64 a,.int .i64 b,.string nm,.string ot] 29))):=aK (Below.refl _ _) _
  have HX:=aa (au w (.cells #[.int .i64 k,.int .i64 t,.int .i64 a,.int .i64 b,.string nm,.string ot] 29))
  clear hG e hk h1 h2
  go_enter Tryz.func42,Tryz.ntmps42
  go_upto_region 1 with fail
  generalize w.alloc (.cells #[.int .i64 k,.int .i64 t,.int .i64 a,.int .i64 b,.string nm,.string ot] 29)=W0 at*
  have x0:=ah (o:=0) HX.out rfl
  have xl:=ak HX.out
  go_upto_region 2 with(go_at_call 87;refine(CF.out _).mono ?_;rintro e w1 ⟨rfl,hb⟩;have HB2:=aa hb;clear hb)
  have HBW:=aa (ai HB0.out HB2.out)
  clear x0 xl CF
  refine aF (by kernel_rfl) (by kernel_rfl) ?_
  repeat(first | (refine WQ.skip rfl rfl rfl rfl ?_;simp only [Act.put,aU,aV,aW,aX]) | ((first | (apply WQ.val;(exact rfl)) | (apply WQ.valg;(exact rfl);(exact rfl);(exact rfl)));(intro w9 hw9;obtain⟨s9,rfl⟩:=hw9;simp [go_sem];first | done | exact rfl);simp only [Act.put,aU,aV,aW,aX]))
  refine WQ.fin fun W5 hb5=> ?_
  go_wp2_with fail
  exact aH (v:=.int .i64 2) rfl rfl rfl ⟨rfl,ai HBW.out hb5⟩
end
section
open Sx Go.RowKit
def dw(l:List Nat):List Value:=l.map fun n:Nat=> Value.int .u8 (n:Int)
theorem jT(l:List Nat):∀ v∈dw l,v.oneCell'=true:=fun v hv=> by
 obtain⟨n,_,rfl⟩:=List.mem_map.1 hv;rfl
theorem lg(l m:List Nat):dw (l++m)=dw l++dw m:=by simp [dw]
theorem pK(B b:Nat)(l:List Nat)(c:Nat)(w:World)(h:Lib.IsBuffer 210 5 B b (dw l) w)(hB:B≤w.heap.size)(hl:l.length≤1000000):
  Calls Tryz.prog 136 #[.pointer (some ⟨b,0,none⟩),.int .u8 (c:Nat)] w fun e w'=> e=.returned .nilIface∧Lib.IsBuffer 210 5 B b (dw (l++[c])) w'∧Below B w w':=by
 have h2:=Any.Buffer_WriteByte uc B b (dw l) (c:Int) w h hB (jT l) (by simp [dw];omega)
 rw [lg]
 exact h2
theorem yB(B b:Nat)(l:List Nat)(s:ByteArray)(w:World)(h:Lib.IsBuffer 210 5 B b (dw l) w)(hB:B≤w.heap.size)(hl:l.length≤1000000)(hs:s.size≤1000000):
  Calls Tryz.prog 137 #[.pointer (some ⟨b,0,none⟩),.string s] w fun e w'=> e=.returned (.tuple #[.int .i64 s.size,.nilIface])∧Lib.IsBuffer 210 5 B b (dw (l++s.data.toList.map UInt8.toNat)) w'∧Below B w w':=by
 have h2:=Any.Buffer_WriteString ud B b (dw l) s w h hB (jT l) (by simp [dw];omega)
 rw [lg]
 have e:dw (s.data.toList.map UInt8.toNat)=Lib.byteCells s.data.toList:=by simp [dw,Lib.byteCells]
 rw [e]
 exact h2
end
section
open Sx Go.RowKit
theorem Az(x y z:Int)(W:World)(j:Nat)(hj:j < 3):(Instr.index 212 (.agg #[.int .i64 x,.int .i64 y,.int .i64 z]) (.int .i64 (j:Int))).run Tryz.prog W=.ok (.int .i64 ([x,y,z].getD j 0)) W:=by
 have hu:=Tryz.underlying212
 have hc:Tryz.prog.cellsOf 2=1:=by kernel_rfl
 have h3:j=0∨j=1∨j=2:=by omega
 rcases h3 with rfl | rfl | rfl
 all_goals
  simp only [Instr.index,Sem.run_bind,asIntOf,Sem.run_pure,Result.andThen_ok,run_underlying hu]
  simp
  simp only [part,Sem.run_bind,run_isAgg_plain Tryz.underlying2 rfl,Result.andThen_ok]
  rfl
theorem AA(x y:ByteArray)(W:World)(j:Nat)(hj:j < 2):(Instr.index 213 (.agg #[.string x,.string y]) (.int .i64 (j:Int))).run Tryz.prog W=.ok (.string ([x,y].getD j ⟨#[]⟩)) W:=by
 have hu:=Tryz.underlying213
 have hc:Tryz.prog.cellsOf 9=1:=by kernel_rfl
 have h3:j=0∨j=1:=by omega
 rcases h3 with rfl | rfl
 all_goals
  simp only [Instr.index,Sem.run_bind,asIntOf,Sem.run_pure,Result.andThen_ok,run_underlying hu]
  simp
  simp only [part,Sem.run_bind,run_isAgg_plain Tryz.underlying9 rfl,Result.andThen_ok]
  rfl
end
section
open Sx Go.RowKit
def bq(n q:Nat):List Nat:=(List.range q).map fun i=> n / 2 ^ (56 - 8*i) % 256
theorem wR(n q:Nat):bq n (q+1)=bq n q++[n / 2 ^ (56 - 8*q) % 256]:=by unfold bq;rw [List.range_succ];simp
theorem yC(n:Nat):bq n 8=b8 n:=by simp [bq,b8,List.range_succ]
theorem yD(n q:Nat):(bq n q).length=q:=by simp [bq]
theorem zX(B b n q:Nat):Hid (∀ (l:List Nat) (W:World),Lib.IsBuffer 210 5 B b (dw l) W→B≤W.heap.size→l.length≤1000000→
  Calls Tryz.prog 136 #[.pointer (some ⟨b,0,none⟩),.int .u8 ((n:Int) / 2 ^ (56 - 8*q) % 256)] W fun e w'=> e=.returned .nilIface∧Lib.IsBuffer 210 5 B b (dw (l++[n / 2 ^ (56 - 8*q) % 256])) w'∧Below B W w'):=fun l W h hB hl=> by
 have h2:=pK B b l (n / 2 ^ (56 - 8*q) % 256) W h hB hl
 have e:((n / 2 ^ (56 - 8*q) % 256:Nat):Int)=(n:Int) / 2 ^ (56 - 8*q) % 256:=by rw [Int.natCast_emod,Int.natCast_ediv,Int.natCast_pow];rfl
 rw [e] at h2
 exact h2
def oK(B:Nat)(t a b:Int)(nm ot:ByteArray)(W:World):Prop:=W.cell? ⟨B,1,none⟩=some (.int .i64 t)∧W.cell? ⟨B,2,none⟩=some (.int .i64 a)∧W.cell? ⟨B,3,none⟩=some (.int .i64 b)∧W.cell? ⟨B,4,none⟩=some (.string nm)∧W.cell? ⟨B,5,none⟩=some (.string ot)
theorem oK.step {B:Nat} {t a b:Int} {nm ot:ByteArray} {W w2:World} (h:oK B t a b nm ot W)(hb:Below (B+1) W w2):oK B t a b nm ot w2:=by
 obtain⟨h1,h2,h3,h4,h5⟩:=h
 have q:∀ o,w2.cell? ⟨B,o,none⟩=W.cell? ⟨B,o,none⟩:=fun o=> hb.cell (p:=⟨B,o,none⟩) (by show B < B+1;omega)
 exact⟨(q _).trans h1,(q _).trans h2,(q _).trans h3,(q _).trans h4,(q _).trans h5⟩
theorem wT(k t a b:Nat)(nm ot:ByteArray)(w:World)(hk:1≤k∧k≤9)(ht:t≤1099511627776)(ha:a≤1099511627776)(hb:b≤1099511627776)(hs1:nm.size≤100)(hs2:ot.size≤100):
  Calls Tryz.prog 105 #[.agg #[.int .i64 k,.int .i64 t,.int .i64 a,.int .i64 b,.string nm,.string ot]] w fun e w'=> ∃ v,e=.returned v∧w'.ownsRow (w.heap.size+1) 5 1 v (dw (k::(([t,a,b].take 3).map b8).flatten++(([nm,ot].take 2).map fun s=> s.size::s.data.toList.map UInt8.toNat).flatten)).length (dw (k::(([t,a,b].take 3).map b8).flatten++(([nm,ot].take 2).map fun s=> s.size::s.data.toList.map UInt8.toNat).flatten))∧Below w.heap.size w w':=by
 have hsz:(w.alloc (.cells #[.int .i64 k,.int .i64 t,.int .i64 a,.int .i64 b,.string nm,.string ot] 29)).heap.size=w.heap.size+1:=by simp
 have hI:=Lib.fresh_isBuffer 210 5 (w.alloc (.cells #[.int .i64 k,.int .i64 t,.int .i64 a,.int .i64 b,.string nm,.string ot] 29))
 rw [hsz] at hI
 have hE:oK w.heap.size t a b nm ot ((w.alloc (.cells #[.int .i64 k,.int .i64 t,.int .i64 a,.int .i64 b,.string nm,.string ot] 29)).alloc (.cells #[.slice none 0 0,.int .i64 0,.int .i8 0] 210)):=by
  unfold oK;refine⟨?_,?_,?_,?_,?_⟩ <;> go_simp
 have HI:=aa hI
 have HE:=aa hE
 clear hI hE hsz
 go_enter Tryz.func105,Tryz.ntmps105
 go_wp2_with (go_at_call 136;refine(pK _ _ [] _ _ HI.out (by simp) (by simp)).mono ?_;rintro e w1 ⟨rfl,hI1,hb1⟩;obtain⟨f1,f2,f3,f4,f5⟩:=HE.out.step hb1;have HI1:=aa hI1;have KW:=aa ((aK (aK (Below.refl w.heap.size w) _) _).trans (hb1.mono (show w.heap.size≤w.heap.size+1 by omega)));clear hI1)
 go_loopw [20,5,6,23] (fun i _ _ _ wr=> ∃ j:Nat,j≤3∧i=.int .i64 j∧Hid (Lib.IsBuffer 210 5 (w.heap.size+1) (w.heap.size+1) (dw (k::(([t,a,b].take j).map b8).flatten)) wr)∧Below (w.heap.size+1) w1 wr) (fun i _ _ _ _=> 3 - (intOf i).toNat)
 case atStart=> exact⟨0,by omega,rfl,HI1,Below.refl _ _⟩
 case round=>
  obtain⟨j,hj,rfl,HB,kB⟩:=hrel
  by_cases hlt:j < 3
  ·have hix:=Az t a b wr j hlt
   obtain⟨n,hn,hn2⟩:∃ n:Nat,([(t:Int),a,b].getD j 0)=n∧n≤1099511627776:=by
    have:j=0∨j=1∨j=2:=by omega
    rcases this with rfl | rfl | rfl
    ·exact⟨t,rfl,ht⟩
    ·exact⟨a,rfl,ha⟩
    ·exact⟨b,rfl,hb⟩
   rw [hn] at hix
   have HN:=aa hn
   clear hn
   have hj3:(j:Int) < 3:=by omega
   go_wp2_with fail
   have hPl:Hid ((k::(([t,a,b].take j).map b8).flatten).length≤100):=by
    have:j=0∨j=1∨j=2:=by omega
    rcases this with rfl | rfl | rfl <;> simp [Hid,b8]
   have hnx:Hid (k::(([t,a,b].take (j+1)).map b8).flatten=k::(([t,a,b].take j).map b8).flatten++b8 n):=by
    have:j=0∨j=1∨j=2:=by omega
    have h2:=HN.out
    rcases this with rfl | rfl | rfl <;> simp [Hid] at h2 ⊢ <;> first | rw [show t=n by omega] | rw [show a=n by omega] | rw [show b=n by omega]
   generalize k::(([t,a,b].take j).map b8).flatten=P at*
   have hsz:w.heap.size+1≤wr.heap.size:=by have:=HB.out.lt;omega
   go_loopw [6,23] (fun _ i w2=> ∃ q:Nat,q≤8∧i=.int .i64 q∧Hid (Lib.IsBuffer 210 5 (w.heap.size+1) (w.heap.size+1) (dw (P++bq n q)) w2)∧Below (w.heap.size+1) wr w2) (fun _ i _=> 8 - (intOf i).toNat)
   case atStart=> exact⟨0,by omega,rfl,by simpa [bq] using HB,Below.refl _ _⟩
   case round=>
    obtain⟨q,hq,rfl,HQ,kQ⟩:=hrel
    by_cases hq2:q < 8
    ·have hq3:(q:Int) < 8:=by omega
     have CW:=zX (w.heap.size+1) (w.heap.size+1) n q
     have hl:(P++bq n q).length≤1000000:=by have:=hPl.out;rw [cY,yD];omega
     have hs2:=Nat.le_of_lt HQ.out.lt
     go_wp2_with (go_at_call 136;refine(CW.out _ _ HQ.out hs2 hl).mono ?_;rintro e w1 ⟨rfl,hI2,hb2⟩)
     exact⟨⟨q+1,by omega,by push_cast;rfl,by rw [wR,← List.append_assoc];exact hI2,kQ.trans hb2⟩,by simp [intOf];omega⟩
    ·obtain rfl:q=8:=by omega
     rw [show((8:Nat):Int)=8 from rfl]
     have HQ2:=aa HQ.out
     rw [yC] at HQ2
     go_wp2_with fail
     exact⟨⟨j+1,by omega,by push_cast;rfl,by rw [hnx.out];exact HQ2.out,kB.trans kQ⟩,by simp [intOf];omega⟩
  ·obtain rfl:j=3:=by omega
   rw [show((3:Nat):Int)=3 from rfl]
   have hE3:=(HE.out.step hb1).step kB
   obtain⟨-,-,-,f8,f9⟩:=hE3
   go_wp2_with fail
   have hPl:Hid ((k::(([t,a,b].take 3).map b8).flatten).length≤100):=by simp [Hid,b8]
   generalize hP:k::(([t,a,b].take 3).map b8).flatten=P at*
   have HP:=aa hP
   clear hP
   go_loopw [40,8] (fun i _ w2=> ∃ j:Nat,j≤2∧i=.int .i64 j∧Hid (Lib.IsBuffer 210 5 (w.heap.size+1) (w.heap.size+1) (dw (P++(([nm,ot].take j).map fun s=> s.size::s.data.toList.map UInt8.toNat).flatten)) w2)∧Below (w.heap.size+1) wr w2) (fun i _ _=> 2 - (intOf i).toNat)
   case atStart=> exact⟨0,by omega,rfl,by simpa using HB,Below.refl _ _⟩
   case round=>
    obtain⟨j,hj,rfl,HQ,kQ⟩:=hrel
    by_cases hj2:j < 2
    ·have hix:=AA nm ot wr j hj2
     have hj3:(j:Int) < 2:=by omega
     obtain⟨s,hn,hn2⟩:∃ s:ByteArray,([nm,ot].getD j ⟨#[]⟩)=s∧s.size≤100:=by
      have:j=0∨j=1:=by omega
      rcases this with rfl | rfl
      ·exact⟨nm,rfl,hs1⟩
      ·exact⟨ot,rfl,hs2⟩
     rw [hn] at hix
     have HN:=aa hn
     clear hn
     have hz:=Lib.size_eq nm
     have hl:Hid ((P++(([nm,ot].take j).map fun s=> s.size::s.data.toList.map UInt8.toNat).flatten).length≤1000):=by
      have h0:=hPl.out
      have:j=0∨j=1:=by omega
      unfold Hid
      rcases this with rfl | rfl <;> simp <;> omega
     have hnx:Hid (P++(([nm,ot].take (j+1)).map fun s=> s.size::s.data.toList.map UInt8.toNat).flatten=P++(([nm,ot].take j).map fun s=> s.size::s.data.toList.map UInt8.toNat).flatten++[s.size]++s.data.toList.map UInt8.toNat):=by
      have h2:=HN.out
      have:j=0∨j=1:=by omega
      rcases this with rfl | rfl <;> simp [Hid] at h2 ⊢ <;> subst h2 <;> simp
     generalize P++(([nm,ot].take j).map fun s=> s.size::s.data.toList.map UInt8.toNat).flatten=Q at*
     have hl1:Q.length≤1000000:=by have:=hl.out;omega
     have hl2:(Q++[s.size]).length≤1000000:=by have:=hl.out;simp;omega
     go_wp2_with (first
      | (go_at_call 136;refine(pK _ _ Q s.size _ HQ.out (Nat.le_of_lt HQ.out.lt) hl1).mono ?_;rintro e w2 ⟨rfl,hI2,hb2⟩)
      | (go_at_call 137;refine(yB _ _ _ s _ hI2 (Nat.le_of_lt hI2.lt) hl2 (by omega)).mono ?_;rintro e w3 ⟨rfl,hI3,hb3⟩))
     exact⟨⟨j+1,by omega,by push_cast;rfl,by rw [hnx.out];exact hI3,(kQ.trans hb2).trans hb3⟩,by simp [intOf];omega⟩
    ·obtain rfl:j=2:=by omega
     rw [show((2:Nat):Int)=2 from rfl]
     go_wp2_with (go_at_call 138;refine(Any.Buffer_Bytes ue _ _ _ _ HQ.out).mono ?_;rintro e w4 ⟨v,rfl,hv,n4,rfl⟩)
     go_ret
     have hP:=HP.out
     subst hP
     exact⟨v,rfl,hv,by repeat' (first | exact(KW.out.trans (kB.mono (by omega))).trans (kQ.mono (by omega)) | apply aI | apply bg)⟩
end
section
open Sx Go.RowKit
theorem rk {B:Nat} {v:Value} {m:List Nat} {W:World} (h:W.ownsRow B 5 1 v (dw m).length (dw m)):∃ a c,v=.slice a m.length c∧ew a m W:=by
 have hl:(dw m).length=m.length:=by simp [dw]
 rw [hl] at h
 obtain⟨-,h⟩:=h
 rcases h with⟨rfl,h⟩ | ⟨g,cap,cur,rfl,-,hg,hn,-,hs,ht⟩
 ·refine⟨none,0,by rw [h],fun hn=> ?_⟩
  exact absurd (eF h) hn
 ·refine⟨_,_,rfl,fun _=> ⟨g,0,rfl,?_,fun k hk=> ?_⟩⟩
  ·rcases Nat.lt_or_ge g W.heap.size with h1 | h1
   ·exact h1
   ·rw [Array.getElem?_eq_none h1] at hg;cases hg
  ·rw [Lib.cell_of_heap hg]
   have h2:(cur.toList.take (m.length*1))[k]? =(dw m)[k]?:=by rw [ht]
   rw [List.getElem?_take_of_lt (by omega)] at h2
   have h3:(dw m)[k]? =some (.int .u8 (m.getD k 0:Nat)):=by
    unfold dw
    rw [bX,bh hk,di,bh hk]
    rfl
   rw [h3] at h2
   simpa using h2
theorem pL(n:Nat):∀ x∈b8 n,x < 256:=by
 intro x hx
 unfold b8 at hx
 simp only [List.mem_cons,List.not_mem_nil,or_false] at hx
 omega
theorem uA(l:List UInt8):∀ x∈l.map UInt8.toNat,x < 256:=by
 intro x hx
 obtain⟨c,_,rfl⟩:=List.mem_map.1 hx
 exact UInt8.toNat_lt c
theorem pM {e:Ev} (hk:e.k≤9)(h1:e.nm.length≤100)(h2:e.ot.length≤100):mG (fH e):=by
 have h:∀ x∈fH e,x < 256:=by
  intro x hx
  unfold fH at hx
  simp only [List.mem_cons,List.mem_append] at hx
  rcases hx with rfl | hx | hx | hx | rfl | hx | rfl | hx
  ·omega
  ·exact pL _ _ hx
  ·exact pL _ _ hx
  ·exact pL _ _ hx
  ·omega
  ·exact uA _ _ hx
  ·omega
  ·exact uA _ _ hx
 intro k
 by_cases hk:k < (fH e).length
 ·rw [di,bh hk]
  exact h _ (List.getElem_mem hk)
 ·rw [di,List.getElem?_eq_none (by omega)]
  decide
theorem sf(k t a b:Nat)(nm ot:ByteArray):k::(([t,a,b].take 3).map b8).flatten++(([nm,ot].take 2).map fun s=> s.size::s.data.toList.map UInt8.toNat).flatten=fH (tq k t a b nm ot):=by
 unfold fH tq
 simp
end
end Go.Proofs.YtmpilgkfbibhlaaGreatDoor
