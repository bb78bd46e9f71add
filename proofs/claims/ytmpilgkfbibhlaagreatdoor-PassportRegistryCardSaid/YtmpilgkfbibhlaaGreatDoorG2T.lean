/-
 G2T
-/
import Derived.Test.YtmpilgkfbibhlaaGreatDoorG1T
import Derived.Deep.Cut
set_option linter.unusedSimpArgs false
set_option linter.unusedVariables false
set_option maxRecDepth 100000
set_option maxHeartbeats 20000000
namespace Go.Proofs.YtmpilgkfbibhlaaGreatDoor
section
open Go.RowKit
section
variable {F:Fence} {n:Nat} {P:Program} {ops:Array Oper} {Q:Exit→Act→World→Prop}
def aM(ops:Array Oper)(i:Nat):Option Nat:=(ops[i]?).bind (·.dst)
def fj:Op→Bool
 | .select .. => false
 | .defer .. => false
 | _=> true
def headB(ops:Array Oper)(N:Nat):Bool:=(List.range N).all fun i=> match ops[i]? with
 | none=> false
 | some o=> o.guard.isNone && fj o.op && o.dst.isSome && (o.op.operands.all fun x=> match x with
   | .tmp t=> (List.range N).all fun j=> decide (aM ops j≠some t) || (waits ops i).contains j
   | _=> true) && (List.range N).all fun j=> decide (j=i) || decide (aM ops j≠aM ops i)
structure HeadAt(ops:Array Oper)(N i:Nat)(o:Oper):Prop where
 guard:o.guard=none
 sel:∀ cs b,o.op≠.select cs b
 dfr:∀ c,o.op≠.defer c
 dst:∃ d,o.dst=some d
 looks:∀ t,Operand.tmp t∈o.op.operands→∀ j,j < N→aM ops j=some t→j∈waits ops i
 one:∀ j,j < N→j≠i→aM ops j≠aM ops i
theorem qX {N i:Nat} {o:Oper} (h:headB ops N=true)(hi:i < N)(ho:ops[i]? =some o):HeadAt ops N i o:=by
 have h1:=List.all_eq_true.1 h i (List.mem_range.2 hi)
 rw [ho] at h1
 simp only [Bool.and_eq_true] at h1
 obtain⟨⟨⟨⟨h1,h2⟩,h3⟩,h4⟩,h5⟩:=h1
 refine⟨by simpa using h1,?_,?_,Option.isSome_iff_exists.1 h3,?_,?_⟩
 ·intro cs b e;rw [e] at h2;simp [fj] at h2
 ·intro c e;rw [e] at h2;simp [fj] at h2
 ·intro t ht j hj hd
  rw [Array.all_eq_true'] at h4
  have h6:=h4 (.tmp t) ht
  have h7:=List.all_eq_true.1 h6 j (List.mem_range.2 hj)
  simp only [Bool.or_eq_true,decide_eq_true_eq] at h7
  rcases h7 with h7 | h7
  ·exact absurd hd h7
  ·simpa using h7
 ·intro j hj hne
  have h6:=List.all_eq_true.1 h5 j (List.mem_range.2 hj)
  simp only [Bool.or_eq_true,decide_eq_true_eq] at h6
  rcases h6 with h6 | h6
  ·exact absurd h6 hne
  ·exact h6
theorem gq {a b:Act} {x:Operand} (h:∀ t,x=.tmp t→a.tmps[t]? =b.tmps[t]?):a.eval x=b.eval x:=by
 cases x with
 | tmp t=> simp only [Act.eval,Array.getD_eq_getD_getElem?];rw [h t rfl]
 | const v=> rfl
 | global g=> rfl
 | func f=> rfl
def qY(P:Program)(AF:Act)(w:World)(o:Oper):Prop:=∃ d v,o.dst=some d∧AF.tmps[d]? =some v∧(execOp AF.eval o).run P w=.ok (.value v) w∧o.about P w AF.eval=none
def fU(P:Program)(AF:Act)(w:World):List Oper→Prop
 | []=> True
 | o::l=> qY P AF w o∧fU P AF w l
theorem fU.at_ {AF:Act} {w:World}:∀ {l:List Oper},fU P AF w l→∀ (i:Nat) (o:Oper),l[i]? =some o→qY P AF w o:=by
 intro l
 induction l with
 | nil=> intro _ i o h;simp at h
 | cons x l ih=>
  intro h i o ho
  cases i with
  | zero=> simp at ho;subst ho;exact h.1
  | succ i=> exact ih h.2 i o (by simpa using ho)
theorem lp {id:Nat} {a:Act} {w:World} (N:Nat)(AF:Act)(hm:P.follows .mixedOrders=true)(he:early ops=true)(hs0:ops.size=N+2)
  (hA:((List.range N).all fun j=> (jg ops 6 N).contains j)=true) (hB:(waits ops (N+1)).contains N=true) (hH:headB ops N=true)
  (hdf:AF.defers=a.defers) (hsz:AF.tmps.size=a.tmps.size) (hsame:∀ t,(∀ j,j < N→aM ops j≠some t)→AF.tmps[t]? =a.tmps[t]?)
  (hv:fU P AF w.drew (ops.toList.take N))
  (tail:wpOpIn F n P ops Q N (fun a1 w1=> wpOpIn F n P ops Q (N+1) (fun a2 w2=> Q .normal a2 w2) a1 w1) AF w.drew):
  (Code.region id ops true).wpIn F n P Q a w:=by
 have hval:∀ i o,i < N→ops[i]? =some o→qY P AF w.drew o:=fun i o hi ho=> hv.at_ i o (by
  rw [List.getElem?_take_of_lt hi,Array.getElem?_toList];exact ho)
 refine mI N hm he hs0 hA hB (fun l x=> x.defers=a.defers∧x.tmps.size=a.tmps.size∧(∀ j,j < N→l.getD j false=true→∀ t,aM ops j=some t→x.tmps[t]? =AF.tmps[t]?)∧
  (∀ t,(∀ j,j < N→aM ops j=some t→l.getD j false=false)→x.tmps[t]? =a.tmps[t]?)) ?_ ?_ ?_
 ·refine⟨rfl,rfl,fun j hj h=> ?_,fun _ _=> rfl⟩
  rw [Array.getD_eq_getD_getElem?] at h
  simp [hs0,show j < N+2 by omega] at h
 ·rintro i o hi ho l x ⟨x1,x2,x3,x4⟩ hls hl hd
  have hH':=qX hH hi ho
  obtain⟨d,v,hd1,hd2,hd3,hd4⟩:=hval i o hi ho
  have hw:=gp ho hd
  have hdi:aM ops i=some d:=by unfold aM;rw [ho];exact hd1
  have hev:∀ y∈o.op.operands,x.eval y=AF.eval y:=by
   intro y hy
   refine gq fun t ht=> ?_
   subst ht
   by_cases hc:∃ j,j < N∧aM ops j=some t
   ·obtain⟨j,hj,hjt⟩:=hc
    exact x3 j hj (hw j (hH'.looks t hy j hj hjt)) t hjt
   ·have hno:∀ j,j < N→aM ops j≠some t:=fun j hj e=> hc ⟨j,hj,e⟩
    rw [x4 t (fun j hj e=> absurd e (hno j hj)),hsame t hno]
  have hex:=execOp_congr o hH'.sel hev
  have hab:=about_congr (P:=P) o w.drew hev
  unfold wpOpIn
  rw [ho]
  simp only [Region.wanted,hH'.guard,if_true]
  unfold Oper.wpIn
  rw [Oper.semAt_eq _ _ _ hH'.dfr,hex,hd3,hab,hd4]
  refine⟨fun f hf=> (by cases hf),?_⟩
  rw [Oper.uponIn_value,hd1]
  have hil:i < l.size:=by rw [hls];exact(Array.getElem?_eq_some_iff.1 ho).1
  refine⟨rfl,x1,by simpa [Act.put] using x2,?_,?_⟩
  ·intro j hj hjl t hjt
   simp only [Act.put]
   rw [Array.getElem?_setIfInBounds]
   by_cases e:d=t
   ·subst e
    have hlt:d < x.tmps.size:=by rw [x2,← hsz];exact(Array.getElem?_eq_some_iff.1 hd2).1
    rw [aG rfl,aG hlt,hd2]
   ·rw [aA e]
    have hji:j≠i:=fun c=> by subst c;rw [hdi] at hjt;exact e (bD hjt)
    rw [aZ hil,aA (fun c=> hji c.symm)] at hjl
    exact x3 j hj hjl t hjt
  ·intro t ht
   simp only [Act.put]
   rw [Array.getElem?_setIfInBounds]
   have hdt:d≠t:=fun c=> by
    subst c
    have:=ht i hi hdi
    rw [aZ hil,aG rfl] at this
    cases this
   rw [aA hdt]
   refine x4 t fun j hj hjt=> ?_
   have:=ht j hj hjt
   rw [aZ hil] at this
   split at this
   ·cases this
   ·exact this
 ·rintro l x ⟨x1,x2,x3,x4⟩ hls hall
  have hx:x=AF:=by
   obtain⟨xt,xd⟩:=x
   obtain⟨ft,fd⟩:=AF
   dsimp only at*
   have e1:xt=ft:=by
    refine Array.ext_getElem? fun t=> ?_
    by_cases hc:∃ j,j < N∧aM ops j=some t
    ·obtain⟨j,hj,hjt⟩:=hc
     exact x3 j hj (kX (by omega) (hall j hj)) t hjt
    ·have hno:∀ j,j < N→aM ops j≠some t:=fun j hj e=> hc ⟨j,hj,e⟩
     rw [x4 t (fun j hj e=> absurd e (hno j hj)),hsame t hno]
   rw [e1,x1,hdf]
  rw [hx]
  exact tail
theorem eu(a:Act)(l:List (Nat×Value)):(updAll a l).defers=a.defers:=by
 induction l with
 | nil=> rfl
 | cons p l ih=> exact ih
theorem eV(a:Act)(l:List (Nat×Value)):(updAll a l).tmps.size=a.tmps.size:=by
 induction l with
 | nil=> rfl
 | cons p l ih=> simpa [updAll,Act.put] using ih
theorem eW(a:Act)(l:List (Nat×Value))(t:Nat)(h:∀ p∈l,p.1≠t):(updAll a l).tmps[t]? =a.tmps[t]?:=by
 induction l with
 | nil=> rfl
 | cons p l ih=>
  have h1:=h p (List.mem_cons_self ..)
  simp only [updAll,Act.put]
  rw [Array.getElem?_setIfInBounds,aA h1]
  exact ih (fun q hq=> h q (List.mem_cons_of_mem _ hq))
theorem lq {id:Nat} {a:Act} {w:World} (N:Nat)(vals:List (Nat×Value))(hm:P.follows .mixedOrders=true)(he:early ops=true)(hs0:ops.size=N+2)
  (hA:((List.range N).all fun j=> (jg ops 6 N).contains j)=true) (hB:(waits ops (N+1)).contains N=true) (hH:headB ops N=true)
  (hds:vals.map (fun p=> some p.1)=(List.range N).map (aM ops)) (hv:fU P (updAll a vals) w.drew (ops.toList.take N))
  (tail:wpOpIn F n P ops Q N (fun a1 w1=> wpOpIn F n P ops Q (N+1) (fun a2 w2=> Q .normal a2 w2) a1 w1) (updAll a vals) w.drew):
  (Code.region id ops true).wpIn F n P Q a w:=
 lp N (updAll a vals) hm he hs0 hA hB hH (eu _ _) (eV _ _) (fun t ht=> eW _ _ _ fun p hp e=> by
  have h1:some p.1∈vals.map (fun p=> some p.1):=List.mem_map.2 ⟨p,hp,rfl⟩
  rw [hds] at h1
  obtain⟨j,hj,hjd⟩:=List.mem_map.1 h1
  exact ht j (List.mem_range.1 hj) (by rw [hjd,e])) hv tail
end
end
section
open Go.RowKit
section
variable {P:Program} {ops:Array Oper} {Q:Exit→Act→World→Prop}
theorem kY {y:Act} {d:Nat} {v v':Value} (hd:d < y.tmps.size)(h:y.put (some d) v=y.put (some d) v'):v=v':=by
 have:=congrArg (fun a:Act=> a.tmps[d]?) h
 simpa [Act.put,Array.getElem?_setIfInBounds,hd] using this
theorem jr {o:Oper} {x y:Act} {d:Nat} {C:Value→World→Prop} {r:Result Next} (hd:o.dst=some d)(hy:d < y.tmps.size)
  (h:o.upon P y (fun a' w'=> ∃ v,a'=y.put (some d) v∧C v w') (fun _ _ _=> False) r):o.upon P x (fun a' w'=> ∃ v,a'=x.put (some d) v∧C v w') Q r:=by
 cases r with
 | ok n w'=>
  cases n with
  | value v=>
   simp only [Oper.upon,hd] at h ⊢
   obtain⟨v',e,hC⟩:=h
   rw [← kY hy e] at hC
   exact⟨v,rfl,hC⟩
  | skip=>
   simp only [Oper.upon,hd] at h ⊢
   obtain⟨v',e,hC⟩:=h
   rw [← kY hy e] at hC
   exact⟨_,rfl,hC⟩
  | «defer» df=>
   simp only [Oper.upon,hd] at h
   obtain⟨v',e,hC⟩:=h
   have:=congrArg Act.defers e
   simp [Act.put] at this
  | enter f args=>
   simp only [Oper.upon,hd] at h ⊢
   refine h.mono fun e w'' he=> ?_
   cases e with
   | returned v=>
    obtain⟨v',e,hC⟩:=he
    rw [← kY hy e] at hC
    exact⟨_,rfl,hC⟩
   | panicked c=> exact absurd he id
   | outgrown=> obtain⟨_,_,hf⟩:=he;exact absurd hf id
  | row rw_ args=>
   simp only [Oper.upon,hd] at h ⊢
   refine h.mono fun v w'' he=> ?_
   obtain⟨v',e,hC⟩:=he
   rw [← kY hy e] at hC
   exact⟨_,rfl,hC⟩
  | _=> exact absurd h id
 | halt hh w'=>
  cases hh <;> exact absurd h id
theorem gd(a:Act)(d t:Nat)(v:Value):(a.put (some d) v).tmps[t]? =if d=t then(if d < a.tmps.size then some v else none)else a.tmps[t]?:=by
 simp only [Act.put,Array.getElem?_setIfInBounds]
theorem nQ {p q:Act} (h1:p.tmps=q.tmps)(h2:p.defers=q.defers):p=q:=by
 obtain⟨a,b⟩:=p
 obtain⟨c,d⟩:=q
 dsimp only at h1 h2
 rw [h1,h2]
end
end
section
open Go.RowKit
section
variable {P:Program} {ops:Array Oper} {Q:Exit→Act→World→Prop}
theorem py {a:Act} {t:Nat} (h:t < a.tmps.size):a.tmps[t]? =some (a.tmps.getD t undef):=by
 rw [Array.getD_eq_getD_getElem?,Array.getElem?_eq_getElem h];rfl
theorem pA {a:Act} {t:Nat} (h:¬ t < a.tmps.size):a.tmps[t]? =none:=by
 rw [Array.getElem?_eq_none_iff];omega
def az(a:Act):List (Nat×Nat)→List Value→Act
 | e::E,v::vs=> (az a E vs).put (some e.2) v
 | _,_=> a
theorem gr(a:Act):∀ (E:List (Nat×Nat)) (vs:List Value),(az a E vs).tmps.size=a.tmps.size
 | [],_=> by simp [az]
 | _::_,[]=> by simp [az]
 | e::E,v::vs=> by
  have:=gr a E vs
  simpa [az,Act.put] using this
theorem fV(a:Act):∀ (E:List (Nat×Nat)) (vs:List Value),(az a E vs).defers=a.defers
 | [],_=> by simp [az]
 | _::_,[]=> by simp [az]
 | e::E,v::vs=> by
  have:=fV a E vs
  simpa [az,Act.put] using this
theorem gu(a x:Act)(hs:a.tmps.size=x.tmps.size):∀ (E:List (Nat×Nat)) (t:Nat),(az a E (E.map fun e=> x.tmps.getD e.2 undef)).tmps[t]? =if t∈E.map (·.2)then x.tmps[t]? else a.tmps[t]?
 | [],t=> by simp [az]
 | e::E,t=> by
  have ih:=gu a x hs E t
  simp only [List.map_cons,az]
  rw [gd,gr]
  by_cases c:e.2=t
  ·subst c
   rw [aG rfl,aG (List.mem_cons_self ..)]
   by_cases hlt:e.2 < x.tmps.size
   ·rw [aG (by omega),py hlt]
   ·rw [aA (by omega),pA hlt]
  ·rw [aA c,ih]
   have:(t∈e.2::E.map (·.2))↔t∈E.map (·.2):=by
    rw [List.mem_cons]
    exact⟨fun h=> h.resolve_left (fun h=> c h.symm),ay⟩
   by_cases m:t∈E.map (·.2)
   ·rw [aG m,aG (this.2 m)]
   ·rw [aA m,aA (fun h=> m (this.1 h))]
def zQ(ops:Array Oper)(N f:Nat)(E:List (Nat×Nat))(plan:List (Option Nat×List Nat)):Bool:=
 ((List.range N).all fun i=> match ops[i]?,plan[i]? with
 | some o,some p=> o.guard.isNone && fj o.op && o.dst.isSome && (o.op.operands.all fun x=> match x with
   | .tmp t=> (E.map (·.2)).contains t || (List.range N).all fun j=> decide (aM ops j≠some t) || (waits ops i).contains j
   | _=> true) && ((List.range N).all fun j=> decide (j=i) || decide (aM ops j≠aM ops i)) &&
   (p.2.all fun k=> match E[k]? with | some e=> (waits ops i).contains e.1 || (waits ops i).any fun j=> (jg ops f j).contains e.1 | none=> false) &&
   (match p.1 with | none=> E.all fun e=> decide (e.1≠i) | some k=> (match E[k]? with | some e=> decide (e.1=i) | none=> false))
 | _,_=> false) &&
 ((List.range E.length).all fun k=> match E[k]? with | some e=> decide (e.1 < N) && decide (aM ops e.1=some e.2) && decide ((plan[e.1]?).map (·.1)=some (some k)) | none=> false)
structure Au(ops:Array Oper)(N f:Nat)(E:List (Nat×Nat))(plan:List (Option Nat×List Nat))(i:Nat)(o:Oper)(p:Option Nat×List Nat):Prop where
 plan:plan[i]? =some p
 guard:o.guard=none
 sel:∀ cs b,o.op≠.select cs b
 dst:∃ d,o.dst=some d
 looks:∀ t,Operand.tmp t∈o.op.operands→t∈E.map (·.2)∨∀ j,j < N→aM ops j=some t→j∈waits ops i
 one:∀ j,j < N→j≠i→aM ops j≠aM ops i
 need:∀ k∈p.2,∃ e,E[k]? =some e∧(e.1∈waits ops i∨∃ j∈waits ops i,e.1∈jg ops f j)
 no:p.1=none→∀ e∈E,e.1≠i
 yes:∀ k,p.1=some k→∃ e,E[k]? =some e∧e.1=i
theorem zR {N f i:Nat} {E:List (Nat×Nat)} {plan:List (Option Nat×List Nat)} {o:Oper} (h:zQ ops N f E plan=true)(hi:i < N)(ho:ops[i]? =some o):∃ p,Au ops N f E plan i o p:=by
 unfold zQ at h
 rw [Bool.and_eq_true] at h
 have h1:=List.all_eq_true.1 h.1 i (List.mem_range.2 hi)
 rw [ho] at h1
 cases hp:plan[i]? with
 | none=> rw [hp] at h1;cases h1
 | some p=>
  rw [hp] at h1
  simp only [Bool.and_eq_true] at h1
  obtain⟨⟨⟨⟨⟨⟨h1,h2⟩,h3⟩,h4⟩,h5⟩,h6⟩,h7⟩:=h1
  refine⟨p,hp,by simpa using h1,?_,Option.isSome_iff_exists.1 h3,?_,?_,?_,?_,?_⟩
  ·intro cs b e;rw [e] at h2;simp [fj] at h2
  ·intro t ht
   rw [Array.all_eq_true'] at h4
   have h8:=h4 (.tmp t) ht
   simp only [Bool.or_eq_true] at h8
   rcases h8 with h8 | h8
   ·exact ax (by simpa using h8)
   ·refine ay fun j hj hd=> ?_
    have h9:=List.all_eq_true.1 h8 j (List.mem_range.2 hj)
    simp only [Bool.or_eq_true,decide_eq_true_eq] at h9
    rcases h9 with h9 | h9
    ·exact absurd hd h9
    ·simpa using h9
  ·intro j hj hne
   have h8:=List.all_eq_true.1 h5 j (List.mem_range.2 hj)
   simp only [Bool.or_eq_true,decide_eq_true_eq] at h8
   rcases h8 with h8 | h8
   ·exact absurd h8 hne
   ·exact h8
  ·intro k hk
   have h8:=List.all_eq_true.1 h6 k hk
   cases he:E[k]? with
   | none=> rw [he] at h8;cases h8
   | some e=>
    rw [he] at h8
    simp only [Bool.or_eq_true,List.any_eq_true] at h8
    refine⟨e,rfl,?_⟩
    rcases h8 with h8 | ⟨j,h8,h9⟩
    ·exact ax (by simpa using h8)
    ·exact ay ⟨j,h8,by simpa using h9⟩
  ·intro hn e he
   rw [hn] at h7
   simpa using List.all_eq_true.1 h7 e he
  ·intro k hk
   rw [hk] at h7
   simp only at h7
   cases he:E[k]? with
   | none=> rw [he] at h7;cases h7
   | some e=> rw [he] at h7;exact⟨e,rfl,by simpa using h7⟩
theorem js {N f k:Nat} {E:List (Nat×Nat)} {plan:List (Option Nat×List Nat)} {e:Nat×Nat} (h:zQ ops N f E plan=true)(he:E[k]? =some e):e.1 < N∧aM ops e.1=some e.2∧(plan[e.1]?).map (·.1)=some (some k):=by
 unfold zQ at h
 rw [Bool.and_eq_true] at h
 have hk:k < E.length:=(aB he).1
 have h1:=List.all_eq_true.1 h.2 k (List.mem_range.2 hk)
 rw [he] at h1
 simp only [Bool.and_eq_true,decide_eq_true_eq] at h1
 exact⟨h1.1.1,h1.1.2,h1.2⟩
def zS(P:Program)(St:List Bool→List Value→World→Prop)(AF:Act)(E:List (Nat×Nat))(need:List Nat)(o:Oper):Prop:=
 ∃ d v,o.dst=some d∧AF.tmps[d]? =some v∧∀ bs vs W,bs.length=E.length→vs.length=E.length→(∀ k∈need,bs.getD k false=true)→St bs vs W→
  ∀ (K:Act→World→Prop) (Q:Exit→Act→World→Prop),(∀ W',St bs vs W'→K ((az AF E vs).put (some d) v) W')→o.wp P (az AF E vs) W K Q
def AX(P:Program)(St:List Bool→List Value→World→Prop)(AF:Act)(E:List (Nat×Nat))(k:Nat)(need:List Nat)(o:Oper):Prop:=
 ∃ d,o.dst=some d∧∀ bs vs W,bs.length=E.length→vs.length=E.length→(∀ k∈need,bs.getD k false=true)→bs.getD k false=false→St bs vs W→
  ∀ (K:Act→World→Prop) (Q:Exit→Act→World→Prop),(∀ v W',St (bs.set k true) (vs.set k v) W'→K ((az AF E vs).put (some d) v) W')→o.wp P (az AF E vs) W K Q
def dp(R:List Nat→Oper→Prop)(F:Nat→List Nat→Oper→Prop):List (Option Nat×List Nat)→List Oper→Prop
 | (none,nd)::ks,o::l=> R nd o∧dp R F ks l
 | (some k,nd)::ks,o::l=> F k nd o∧dp R F ks l
 | _,_=> True
theorem dp.at_ {R:List Nat→Oper→Prop} {F:Nat→List Nat→Oper→Prop}:∀ {ks:List (Option Nat×List Nat)} {l:List Oper},dp R F ks l→∀ (i:Nat) (o:Oper) (p:Option Nat×List Nat),l[i]? =some o→ks[i]? =some p→(match p.1 with | none=> R p.2 o | some k=> F k p.2 o)
 | [],_,_,i,o,p,_,hp=> by simp at hp
 | _::_,[],_,i,o,p,ho,_=> by simp at ho
 | (none,nd)::ks,x::l,h,0,o,p,ho,hp=> by
  simp only [List.getElem?_cons_zero,Option.some.injEq] at ho hp
  subst ho hp
  exact h.1
 | (some k,nd)::ks,x::l,h,0,o,p,ho,hp=> by
  simp only [List.getElem?_cons_zero,Option.some.injEq] at ho hp
  subst ho hp
  exact h.1
 | (none,nd)::ks,x::l,h,i+1,o,p,ho,hp=> dp.at_ (ks:=ks) (l:=l) h.2 i o p (by simpa using ho) (by simpa using hp)
 | (some k,nd)::ks,x::l,h,i+1,o,p,ho,hp=> dp.at_ (ks:=ks) (l:=l) h.2 i o p (by simpa using ho) (by simpa using hp)
theorem tB {l:Array Bool} (hS:Shut ops l){i f:Nat} {e:Nat} (hw:∀ j∈waits ops i,l.getD j false=true)(h:e∈waits ops i∨∃ j∈waits ops i,e∈jg ops f j):l.getD e false=true:=by
 rcases h with h | ⟨j,hj,h⟩
 ·exact hw e h
 ·exact hS.anc f j (hw j hj) e h
theorem eA {id:Nat} {a:Act} {w:World} (N f:Nat)(E:List (Nat×Nat))(plan:List (Option Nat×List Nat))(vals:List (Nat×Value))(St:List Bool→List Value→World→Prop)(hm:P.follows .mixedOrders=true)(he:early ops=true)(hs0:ops.size=N+1)
  (hA:((List.range N).all fun j=> (jg ops f N).contains j)=true) (hH:zQ ops N f E plan=true) (hsu:∀ e∈E,e.2 < a.tmps.size)
  (hds:vals.map (fun p=> some p.1)=((List.range N).filter fun i=> E.all fun e=> decide (e.1≠i)).map (aM ops))
  (h0:∀ vs,vs.length=E.length→St (E.map fun _=> false) vs w.drew) (each:dp (zS P St (updAll a vals) E) (AX P St (updAll a vals) E) plan (ops.toList.take N))
  (tail:∀ vs W,vs.length=E.length→St (E.map fun _=> true) vs W→wpOp P ops Q N (fun a2 w2=> Q .normal a2 w2) (az (updAll a vals) E vs) W):
  (Code.region id ops true).wp P Q a w:=by
 have hA':∀ j,j < N→j∈jg ops f N:=fun j hj=> by simpa using List.all_eq_true.1 hA j (List.mem_range.2 hj)
 have hidx:∀ j,(E.all fun e=> decide (e.1≠j))=true↔∀ e∈E,e.1≠j:=fun j=> by simp
 have hsame:∀ t,(∀ j,j < N→(∀ e∈E,e.1≠j)→aM ops j≠some t)→(updAll a vals).tmps[t]? =a.tmps[t]?:=fun t ht=> eW _ _ _ fun p hp e=> by
  have h1:some p.1∈vals.map (fun p=> some p.1):=List.mem_map.2 ⟨p,hp,rfl⟩
  rw [hds] at h1
  obtain⟨j,hj,hjd⟩:=List.mem_map.1 h1
  obtain⟨hj1,hj2⟩:=List.mem_filter.1 hj
  exact ht j (List.mem_range.1 hj1) ((hidx j).1 hj2) (by rw [hjd,e])
 have hdf:(updAll a vals).defers=a.defers:=eu _ _
 have hsz:(updAll a vals).tmps.size=a.tmps.size:=eV _ _
 have hob:∀ i o p,i < N→ops[i]? =some o→plan[i]? =some p→(match p.1 with | none=> zS P St (updAll a vals) E p.2 o | some k=> AX P St (updAll a vals) E k p.2 o):=fun i o p hi ho hp=> each.at_ i o p (by
  rw [List.getElem?_take_of_lt hi,Array.getElem?_toList];exact ho) hp
 clear each
 generalize updAll a vals=AF at*
 refine jq hm he (fun l x W=> l.size=ops.size∧Shut ops l∧((l.getD N false=true∧Q .normal x W)∨(l.getD N true=false∧x.defers=a.defers∧x.tmps.size=a.tmps.size∧
  (∀ j,j < N→(∀ e∈E,e.1≠j)→l.getD j false=true→∀ t,aM ops j=some t→x.tmps[t]? =AF.tmps[t]?)∧
  (∀ t,(∀ j,j < N→aM ops j=some t→l.getD j false=false)→x.tmps[t]? =a.tmps[t]?)∧St (E.map fun e=> l.getD e.1 false) (E.map fun e=> x.tmps.getD e.2 undef) W))) ?_ (fun l a w h=> h.1) ?_ ?_
 ·refine⟨by simp,?_,ay ⟨?_,rfl,rfl,fun j hj _ h=> ?_,fun _ _=> rfl,?_⟩⟩
  ·intro i hi
   rw [Array.getD_eq_getD_getElem?] at hi
   by_cases h:i < ops.size <;> simp [h] at hi
  ·rw [Array.getD_eq_getD_getElem?];simp [hs0]
  ·rw [Array.getD_eq_getD_getElem?] at h
   simp [hs0,show j < N+1 by omega] at h
  ·have e:∀ k,(Array.replicate ops.size false).getD k false=false:=by
    intro k
    rw [Array.getD_eq_getD_getElem?]
    by_cases h:k < ops.size <;> simp [h]
   simp only [e]
   exact h0 _ (by simp)
 ·rintro i o ho l x W ⟨hs,hS,hJ⟩ hl hd
  have hio:i < ops.size:=(Array.getElem?_eq_some_iff.1 ho).1
  have hil:i < l.size:=by rw [hs];exact hio
  have hw:=gp ho hd
  have hS2:=hS.set hil hw
  have hs2:(l.setIfInBounds i true).size=ops.size:=by simpa using hs
  rcases hJ with⟨j1,_⟩ | ⟨jN,x1,x2,x3,x4,x5⟩
  ·rcases Nat.lt_or_ge i N with hi | hi
   ·exact absurd (hS.anc f N j1 i (hA' i hi)) (by rw [ec hl];decide)
   ·obtain rfl:i=N:=by omega
    exact absurd j1 (by rw [ec hl];decide)
  have hFx:=gu AF x (by rw [hsz,x2]) E
  rcases Nat.lt_or_ge i N with hi | hi
  ·obtain⟨p,hC⟩:=zR hH hi ho
   obtain⟨d,hd1⟩:=hC.dst
   have hdi:aM ops i=some d:=by unfold aM;rw [ho];exact hd1
   have hev:∀ y∈o.op.operands,x.eval y=(az AF E (E.map fun e=> x.tmps.getD e.2 undef)).eval y:=by
    intro y hy
    refine gq fun t ht=> ?_
    subst ht
    rw [hFx]
    by_cases c1:t∈E.map (·.2)
    ·rw [aG c1]
    ·rw [aA c1]
     rcases hC.looks t hy with c2 | c2
     ·exact absurd c2 c1
     by_cases hc:∃ j,j < N∧aM ops j=some t
     ·obtain⟨j,hj,hjt⟩:=hc
      refine x3 j hj (fun e heE hej=> c1 ?_) (hw j (c2 j hj hjt)) t hjt
      obtain⟨k,hk⟩:=List.getElem?_of_mem heE
      have q:=(js hH hk).2.1
      rw [hej,hjt] at q
      exact List.mem_map.2 ⟨e,heE,(bD q).symm⟩
     ·have hno:∀ j,j < N→aM ops j≠some t:=fun j hj e=> hc ⟨j,hj,e⟩
      rw [x4 t (fun j hj e=> absurd e (hno j hj)),hsame t (fun j hj _=> hno j hj)]
   have hex:=execOp_congr o hC.sel hev
   have hneed:∀ k∈p.2,(E.map fun e=> l.getD e.1 false).getD k false=true:=by
    intro k hk
    obtain⟨e,he1,he2⟩:=hC.need k hk
    rw [di,bX,he1]
    exact tB hS hw he2
   have hput:d < a.tmps.size→∀ (C:Value→World→Prop),(∀ (K:Act→World→Prop) (Q:Exit→Act→World→Prop),(∀ v W',C v W'→K ((az AF E (E.map fun e=> x.tmps.getD e.2 undef)).put (some d) v) W')→o.wp P (az AF E (E.map fun e=> x.tmps.getD e.2 undef)) W K Q)→wpOp P ops Q i (fun a' w'=> ∃ v,a'=x.put (some d) v∧C v w') x W:=by
    intro hdlt C hC2
    unfold wpOp
    rw [ho]
    simp only [Region.wanted,hC.guard,if_true]
    refine ax ?_
    have h1:=hC2 (fun a' w'=> ∃ v,a'=(az AF E (E.map fun e=> x.tmps.getD e.2 undef)).put (some d) v∧C v w') (fun _ _ _=> False) (fun v W' h=> ⟨v,rfl,h⟩)
    unfold Oper.wp at h1 ⊢
    rw [hex]
    exact jr hd1 (by rw [gr,hsz];exact hdlt) h1
   have hgd:d < a.tmps.size→∀ (v:Value) (t:Nat),(x.put (some d) v).tmps.getD t undef=if d=t then v else x.tmps.getD t undef:=by
    intro hdlt v t
    rw [Array.getD_eq_getD_getElem?,gd]
    by_cases e:d=t
    ·rw [aG e,aG e,aG (by rw [x2];exact hdlt)];rfl
    ·rw [aA e,aA e,Array.getD_eq_getD_getElem?]
   have hfr:d < a.tmps.size→∀ v W',(p.1=none→AF.tmps[d]? =some v)→St (E.map fun e=> (l.setIfInBounds i true).getD e.1 false) (E.map fun e=> (x.put (some d) v).tmps.getD e.2 undef) W'→
     ((l.setIfInBounds i true).size=ops.size∧Shut ops (l.setIfInBounds i true)∧(((l.setIfInBounds i true).getD N false=true∧Q .normal (x.put (some d) v) W')∨((l.setIfInBounds i true).getD N true=false∧(x.put (some d) v).defers=a.defers∧(x.put (some d) v).tmps.size=a.tmps.size∧
  (∀ j,j < N→(∀ e∈E,e.1≠j)→(l.setIfInBounds i true).getD j false=true→∀ t,aM ops j=some t→(x.put (some d) v).tmps[t]? =AF.tmps[t]?)∧
  (∀ t,(∀ j,j < N→aM ops j=some t→(l.setIfInBounds i true).getD j false=false)→(x.put (some d) v).tmps[t]? =a.tmps[t]?)∧St (E.map fun e=> (l.setIfInBounds i true).getD e.1 false) (E.map fun e=> (x.put (some d) v).tmps.getD e.2 undef) W'))):=by
    intro hdlt v W' hv hSt
    have hlt:d < x.tmps.size:=by rw [x2];exact hdlt
    refine⟨hs2,hS2,ay ⟨?_,x1,by simpa [Act.put] using x2,?_,?_,hSt⟩⟩
    ·rw [aZ hil,aA (by omega)];exact jN
    ·intro j hj m1 hjl t hjt
     rw [gd]
     by_cases e:d=t
     ·subst e
      rw [aG rfl,aG hlt]
      have hji:j=i:=Classical.byContradiction fun c=> hC.one j hj c (by rw [hjt,hdi])
      subst hji
      refine(hv ?_).symm
      cases hp:p.1 with
      | none=> rfl
      | some k=> obtain⟨e,he1,he2⟩:=hC.yes k hp;exact absurd he2 (m1 e (aJ he1))
     ·rw [aA e]
      have hji:j≠i:=fun c=> by subst c;rw [hdi] at hjt;exact e (bD hjt)
      rw [aZ hil,aA (fun c=> hji c.symm)] at hjl
      exact x3 j hj m1 hjl t hjt
    ·intro t ht
     rw [gd]
     have hdt:d≠t:=fun c=> by
      subst c
      have:=ht i hi hdi
      rw [aZ hil,aG rfl] at this
      cases this
     rw [aA hdt]
     refine x4 t fun j hj hjt=> ?_
     have:=ht j hj hjt
     rw [aZ hil] at this
     split at this
     ·cases this
     ·exact this
   have hO:=hob i o p hi ho hC.plan
   obtain⟨pk,nd⟩:=p
   cases pk with
   | none=>
    obtain⟨d',v,g1,g2,g3⟩:=hO
    rw [hd1] at g1
    obtain rfl:d=d':=bD g1
    have hdlt:d < a.tmps.size:=by
     have:=(Array.getElem?_eq_some_iff.1 g2).1
     rw [hsz] at this
     exact this
    have hE:=hC.no rfl
    refine wpOp_mono ?_ (hput hdlt (fun v' W'=> v'=v∧St (E.map fun e=> l.getD e.1 false) (E.map fun e=> x.tmps.getD e.2 undef) W') (fun K Q hK=> g3 _ _ W (by simp) (by simp) hneed x5 K Q (fun W' h=> hK v W' ⟨rfl,h⟩)))
    rintro a' w' ⟨v',rfl,rfl,hv⟩
    refine hfr hdlt v' w' (fun _=> g2) ?_
    have q1:(E.map fun e=> (l.setIfInBounds i true).getD e.1 false)=E.map fun e=> l.getD e.1 false:=List.map_congr_left fun e he=> by
     rw [aZ hil,aA (fun c=> hE e he c.symm)]
    have q2:(E.map fun e=> (x.put (some d) v').tmps.getD e.2 undef)=E.map fun e=> x.tmps.getD e.2 undef:=List.map_congr_left fun e he=> by
     obtain⟨k,hk⟩:=List.getElem?_of_mem he
     have q:=js hH hk
     rw [hgd hdlt,aA (fun c=> hC.one e.1 q.1 (hE e he) (by rw [q.2.1,hdi,c]))]
    rw [q1,q2]
    exact hv
   | some k=>
    obtain⟨d',g1,g3⟩:=hO
    rw [hd1] at g1
    obtain rfl:d=d':=bD g1
    obtain⟨ek,hk,hek⟩:=hC.yes k rfl
    have qk:=js hH hk
    have hde:d=ek.2:=by
     have:=qk.2.1
     rw [hek,hdi] at this
     exact bD this
    have hdlt:d < a.tmps.size:=by rw [hde];exact hsu ek (aJ hk)
    have hbk:(E.map fun e=> l.getD e.1 false).getD k false=false:=by
     rw [di,bX,hk]
     show l.getD ek.1 false=false
     rw [hek]
     exact ec hl
    refine wpOp_mono ?_ (hput hdlt (fun v' W'=> St ((E.map fun e=> l.getD e.1 false).set k true) ((E.map fun e=> x.tmps.getD e.2 undef).set k v') W') (fun K Q hK=> g3 _ _ W (by simp) (by simp) hneed hbk x5 K Q hK))
    rintro a' w' ⟨v',rfl,hv⟩
    refine hfr hdlt v' w' (fun c=> by cases c) ?_
    have hkl:k < E.length:=(aB hk).1
    have hm:∀ m e,E[m]? =some e→e.1=i→m=k:=by
     intro m e hme h
     have q:=(js hH hme).2.2
     have q':=qk.2.2
     rw [h] at q
     rw [hek,q] at q'
     exact bD (bD q')
    have q1:(E.map fun e=> (l.setIfInBounds i true).getD e.1 false)=(E.map fun e=> l.getD e.1 false).set k true:=by
     refine List.ext_getElem? fun m=> ?_
     rw [List.getElem?_set,bX,bX]
     cases hE:E[m]? with
     | none=>
      have:E.length≤m:=List.getElem?_eq_none_iff.1 hE
      rw [aA (by omega)];rfl
     | some e=>
      simp only [Option.map_some]
      rw [aZ hil]
      by_cases c:k=m
      ·subst c
       rw [hk] at hE
       obtain rfl:=bD hE
       rw [aG hek.symm,aG rfl,aG (by simpa using hkl)]
      ·rw [aA (fun h=> c (hm m e hE h.symm).symm),aA c]
    have q2:(E.map fun e=> (x.put (some d) v').tmps.getD e.2 undef)=(E.map fun e=> x.tmps.getD e.2 undef).set k v':=by
     refine List.ext_getElem? fun m=> ?_
     rw [List.getElem?_set,bX,bX]
     cases hE:E[m]? with
     | none=>
      have:E.length≤m:=List.getElem?_eq_none_iff.1 hE
      rw [aA (by omega)];rfl
     | some e=>
      simp only [Option.map_some]
      rw [hgd hdlt]
      by_cases c:k=m
      ·subst c
       rw [hk] at hE
       obtain rfl:=bD hE
       rw [aG hde,aG rfl,aG (by simpa using hkl)]
      ·have hne:e.1≠i:=fun h=> c (hm m e hE h).symm
       have q:=js hH hE
       rw [aA (fun h=> hC.one e.1 q.1 hne (by rw [q.2.1,hdi,h])),aA c]
    rw [q1,q2]
    exact hv
  ·obtain rfl:i=N:=by omega
   have hall:∀ j,j < i→l.getD j false=true:=by
    intro j hj
    have:=hS2.anc f i (by rw [aZ hil,aG rfl]) j (hA' j hj)
    rwa [aZ hil,aA (by omega)] at this
   have q1:(E.map fun e=> l.getD e.1 false)=E.map fun _=> true:=List.map_congr_left fun e he=> by
    obtain⟨k,hk⟩:=List.getElem?_of_mem he
    exact hall e.1 (js hH hk).1
   rw [q1] at x5
   have hx:x=az AF E (E.map fun e=> x.tmps.getD e.2 undef):=by
    refine nQ (Array.ext_getElem? fun t=> ?_) (by rw [fV,hdf,x1])
    rw [hFx]
    by_cases c1:t∈E.map (·.2)
    ·rw [aG c1]
    ·rw [aA c1]
     by_cases hc:∃ j,j < i∧aM ops j=some t
     ·obtain⟨j,hj,hjt⟩:=hc
      refine x3 j hj (fun e heE hej=> c1 ?_) (hall j hj) t hjt
      obtain⟨k,hk⟩:=List.getElem?_of_mem heE
      have q:=(js hH hk).2.1
      rw [hej,hjt] at q
      exact List.mem_map.2 ⟨e,heE,(bD q).symm⟩
     ·have hno:∀ j,j < i→aM ops j≠some t:=fun j hj e=> hc ⟨j,hj,e⟩
      rw [x4 t (fun j hj e=> absurd e (hno j hj)),hsame t (fun j hj _=> hno j hj)]
   have ht:=tail _ W (by simp) x5
   rw [← hx] at ht
   refine wpOp_mono ?_ ht
   intro a' w' h
   exact⟨hs2,hS2,ax ⟨by rw [aZ hil,aG rfl],h⟩⟩
 ·rintro l x W ⟨hs,hS,hJ⟩ hall
  rcases hJ with⟨_,j⟩ | ⟨j,_⟩
  ·exact j
  ·rw [hall N (by omega)] at j;cases j
theorem Ao {α:Type} {n:Nat} {l:List α} (h:l.length=n+1):∃ x m,l=x::m∧m.length=n:=by
 cases l with
 | nil=> simp at h
 | cons x m=> exact⟨x,m,rfl,by simpa using h⟩
theorem len_nil {α:Type} {l:List α} (h:l.length=0):l=[]:=eF h
end
end
section
open Go.RowKit
section
variable {P:Program} {ops:Array Oper} {Q:Exit→Act→World→Prop}
def zT(ops:Array Oper)(N f z:Nat)(E:List (Nat×Nat))(plan:List (Option Nat×List Nat)):Bool:=
 ((List.range N).all fun i=> match ops[i]?,plan[i]? with
 | some o,some p=> o.guard.isNone && fj o.op && (o.op.operands.all fun x=> match x with
   | .tmp t=> (E.map (·.2)).contains t || (List.range N).all fun j=> decide (aM ops j≠some t) || (waits ops i).contains j
   | _=> true) && ((List.range N).all fun j=> decide (j=i) || decide (aM ops j=none) || decide (aM ops j≠aM ops i)) &&
   (p.2.all fun k=> match E[k]? with | some e=> (waits ops i).contains e.1 || (waits ops i).any fun j=> (jg ops f j).contains e.1 | none=> false) &&
   (match p.1 with | none=> E.all fun e=> decide (e.1≠i) | some k=> (match E[k]? with | some e=> decide (e.1=i) | none=> false))
 | _,_=> false) &&
 ((List.range E.length).all fun k=> match E[k]? with | some e=> decide (e.1 < N) && (decide (aM ops e.1=some e.2) && decide (e.2 < z) || decide (aM ops e.1=none) && decide (z≤e.2)) && decide ((plan[e.1]?).map (·.1)=some (some k)) | none=> false)
structure Av(ops:Array Oper)(N f:Nat)(E:List (Nat×Nat))(plan:List (Option Nat×List Nat))(i:Nat)(o:Oper)(p:Option Nat×List Nat):Prop where
 plan:plan[i]? =some p
 guard:o.guard=none
 sel:∀ cs b,o.op≠.select cs b
 looks:∀ t,Operand.tmp t∈o.op.operands→t∈E.map (·.2)∨∀ j,j < N→aM ops j=some t→j∈waits ops i
 one:∀ j,j < N→j≠i→aM ops j=none∨aM ops j≠aM ops i
 need:∀ k∈p.2,∃ e,E[k]? =some e∧(e.1∈waits ops i∨∃ j∈waits ops i,e.1∈jg ops f j)
 no:p.1=none→∀ e∈E,e.1≠i
 yes:∀ k,p.1=some k→∃ e,E[k]? =some e∧e.1=i
theorem zU {N f z i:Nat} {E:List (Nat×Nat)} {plan:List (Option Nat×List Nat)} {o:Oper} (h:zT ops N f z E plan=true)(hi:i < N)(ho:ops[i]? =some o):∃ p,Av ops N f E plan i o p:=by
 unfold zT at h
 rw [Bool.and_eq_true] at h
 have h1:=List.all_eq_true.1 h.1 i (List.mem_range.2 hi)
 rw [ho] at h1
 cases hp:plan[i]? with
 | none=> rw [hp] at h1;cases h1
 | some p=>
  rw [hp] at h1
  simp only [Bool.and_eq_true] at h1
  obtain⟨⟨⟨⟨⟨h1,h2⟩,h4⟩,h5⟩,h6⟩,h7⟩:=h1
  refine⟨p,hp,by simpa using h1,?_,?_,?_,?_,?_,?_⟩
  ·intro cs b e;rw [e] at h2;simp [fj] at h2
  ·intro t ht
   rw [Array.all_eq_true'] at h4
   have h8:=h4 (.tmp t) ht
   simp only [Bool.or_eq_true] at h8
   rcases h8 with h8 | h8
   ·exact ax (by simpa using h8)
   ·refine ay fun j hj hd=> ?_
    have h9:=List.all_eq_true.1 h8 j (List.mem_range.2 hj)
    simp only [Bool.or_eq_true,decide_eq_true_eq] at h9
    rcases h9 with h9 | h9
    ·exact absurd hd h9
    ·simpa using h9
  ·intro j hj hne
   have h8:=List.all_eq_true.1 h5 j (List.mem_range.2 hj)
   simp only [Bool.or_eq_true,decide_eq_true_eq] at h8
   rcases h8 with(h8 | h8) | h8
   ·exact absurd h8 hne
   ·exact ax h8
   ·exact ay h8
  ·intro k hk
   have h8:=List.all_eq_true.1 h6 k hk
   cases he:E[k]? with
   | none=> rw [he] at h8;cases h8
   | some e=>
    rw [he] at h8
    simp only [Bool.or_eq_true,List.any_eq_true] at h8
    refine⟨e,rfl,?_⟩
    rcases h8 with h8 | ⟨j,h8,h9⟩
    ·exact ax (by simpa using h8)
    ·exact ay ⟨j,h8,by simpa using h9⟩
  ·intro hn e he
   rw [hn] at h7
   simpa using List.all_eq_true.1 h7 e he
  ·intro k hk
   rw [hk] at h7
   simp only at h7
   cases he:E[k]? with
   | none=> rw [he] at h7;cases h7
   | some e=> rw [he] at h7;exact⟨e,rfl,by simpa using h7⟩
theorem iH {N f z k:Nat} {E:List (Nat×Nat)} {plan:List (Option Nat×List Nat)} {e:Nat×Nat} (h:zT ops N f z E plan=true)(he:E[k]? =some e):e.1 < N∧(aM ops e.1=some e.2∧e.2 < z∨aM ops e.1=none∧z≤e.2)∧(plan[e.1]?).map (·.1)=some (some k):=by
 unfold zT at h
 rw [Bool.and_eq_true] at h
 have hk:k < E.length:=(aB he).1
 have h1:=List.all_eq_true.1 h.2 k (List.mem_range.2 hk)
 rw [he] at h1
 simp only [Bool.and_eq_true,Bool.or_eq_true,decide_eq_true_eq] at h1
 exact⟨h1.1.1,h1.1.2,h1.2⟩
def Aw(P:Program)(St:List Bool→List Value→World→Prop)(AF:Act)(E:List (Nat×Nat))(k:Nat)(need:List Nat)(o:Oper):Prop:=
 (∃ d,o.dst=some d∧∀ bs vs W,bs.length=E.length→vs.length=E.length→(∀ k∈need,bs.getD k false=true)→bs.getD k false=false→St bs vs W→
  ∀ (K:Act→World→Prop) (Q:Exit→Act→World→Prop),(∀ v W',St (bs.set k true) (vs.set k v) W'→K ((az AF E vs).put (some d) v) W')→o.wp P (az AF E vs) W K Q)∨
 (o.dst=none∧∀ bs vs W,bs.length=E.length→vs.length=E.length→(∀ k∈need,bs.getD k false=true)→bs.getD k false=false→St bs vs W→
  ∀ (K:Act→World→Prop) (Q:Exit→Act→World→Prop),(∀ W',St (bs.set k true) vs W'→K (az AF E vs) W')→o.wp P (az AF E vs) W K Q)
theorem kO {o:Oper} {x y:Act} {C:World→Prop} {r:Result Next} (hd:o.dst=none)
  (h:o.upon P y (fun a' w'=> a'=y∧C w') (fun _ _ _=> False) r):o.upon P x (fun a' w'=> a'=x∧C w') Q r:=by
 cases r with
 | ok n w'=>
  cases n with
  | value v=>
   simp only [Oper.upon,hd] at h ⊢
   exact⟨rfl,h.2⟩
  | skip=>
   simp only [Oper.upon,hd] at h ⊢
   exact⟨rfl,h.2⟩
  | «defer» df=>
   simp only [Oper.upon,hd] at h
   have:=congrArg Act.defers h.1
   simp [Act.put] at this
  | enter f args=>
   simp only [Oper.upon,hd] at h ⊢
   refine h.mono fun e w'' he=> ?_
   cases e with
   | returned v=> exact⟨rfl,he.2⟩
   | panicked c=> exact absurd he id
   | outgrown=> obtain⟨_,_,hf⟩:=he;exact absurd hf id
  | row rw_ args=>
   simp only [Oper.upon,hd] at h ⊢
   refine h.mono fun v w'' he=> ?_
   exact⟨rfl,he.2⟩
  | _=> exact absurd h id
 | halt hh w'=>
  cases hh <;> exact absurd h id
theorem mS {l:Array Bool} (hS:Shut ops l){i f:Nat} {e:Nat} (hw:∀ j∈waits ops i,l.getD j false=true)(h:e∈waits ops i∨∃ j∈waits ops i,e∈jg ops f j):l.getD e false=true:=by
 rcases h with h | ⟨j,hj,h⟩
 ·exact hw e h
 ·exact hS.anc f j (hw j hj) e h
theorem bo {id:Nat} {a:Act} {w:World} (N f z:Nat)(E:List (Nat×Nat))(plan:List (Option Nat×List Nat))(vals:List (Nat×Value))(St:List Bool→List Value→World→Prop)(hm:P.follows .mixedOrders=true)(he:early ops=true)(hs0:ops.size=N)(hz:a.tmps.size=z)
  (hH:zT ops N f z E plan=true)
  (hds:vals.map (fun p=> some p.1)=((List.range N).filter fun i=> E.all fun e=> decide (e.1≠i)).map (aM ops))
  (h0:∀ vs,vs.length=E.length→St (E.map fun _=> false) vs w.drew) (each:dp (zS P St (updAll a vals) E) (Aw P St (updAll a vals) E) plan ops.toList)
  (done:∀ vs W,vs.length=E.length→St (E.map fun _=> true) vs W→Q .normal (az (updAll a vals) E vs) W):
  (Code.region id ops true).wp P Q a w:=by
 have hidx:∀ j,(E.all fun e=> decide (e.1≠j))=true↔∀ e∈E,e.1≠j:=fun j=> by simp
 have hsame:∀ t,(∀ j,j < N→(∀ e∈E,e.1≠j)→aM ops j≠some t)→(updAll a vals).tmps[t]? =a.tmps[t]?:=fun t ht=> eW _ _ _ fun p hp e=> by
  have h1:some p.1∈vals.map (fun p=> some p.1):=List.mem_map.2 ⟨p,hp,rfl⟩
  rw [hds] at h1
  obtain⟨j,hj,hjd⟩:=List.mem_map.1 h1
  obtain⟨hj1,hj2⟩:=List.mem_filter.1 hj
  exact ht j (List.mem_range.1 hj1) ((hidx j).1 hj2) (by rw [hjd,e])
 have hdf:(updAll a vals).defers=a.defers:=eu _ _
 have hsz:(updAll a vals).tmps.size=a.tmps.size:=eV _ _
 have hob:∀ (i:Nat) (o:Oper) (p:Option Nat×List Nat),ops[i]? =some o→plan[i]? =some p→(match p.1 with | none=> zS P St (updAll a vals) E p.2 o | some k=> Aw P St (updAll a vals) E k p.2 o):=fun i o p ho hp=> each.at_ i o p (by
  rw [Array.getElem?_toList];exact ho) hp
 clear each
 generalize updAll a vals=AF at*
 refine jq hm he (fun l x W=> l.size=ops.size∧Shut ops l∧x.defers=a.defers∧x.tmps.size=a.tmps.size∧
  (∀ j,j < N→(∀ e∈E,e.1≠j)→l.getD j false=true→∀ t,aM ops j=some t→x.tmps[t]? =AF.tmps[t]?)∧
  (∀ t,(∀ j,j < N→aM ops j=some t→l.getD j false=false)→x.tmps[t]? =a.tmps[t]?)∧St (E.map fun e=> l.getD e.1 false) (E.map fun e=> x.tmps.getD e.2 undef) W) ?_ (fun l a w h=> h.1) ?_ ?_
 ·refine⟨by simp,?_,rfl,rfl,fun j hj _ h=> ?_,fun _ _=> rfl,?_⟩
  ·intro i hi
   rw [Array.getD_eq_getD_getElem?] at hi
   by_cases h:i < ops.size <;> simp [h] at hi
  ·rw [Array.getD_eq_getD_getElem?] at h
   simp [hs0,hj] at h
  ·have e:∀ k,(Array.replicate ops.size false).getD k false=false:=by
    intro k
    rw [Array.getD_eq_getD_getElem?]
    by_cases h:k < ops.size <;> simp [h]
   simp only [e]
   exact h0 _ (by simp)
 ·rintro i o ho l x W ⟨hs,hS,x1,x2,x3,x4,x5⟩ hl hd
  have hio:i < ops.size:=(Array.getElem?_eq_some_iff.1 ho).1
  have hil:i < l.size:=by rw [hs];exact hio
  have hi:i < N:=by omega
  have hw:=gp ho hd
  have hS2:=hS.set hil hw
  have hs2:(l.setIfInBounds i true).size=ops.size:=by simpa using hs
  have hFx:=gu AF x (by rw [hsz,x2]) E
  obtain⟨p,hC⟩:=zU hH hi ho
  have hev:∀ y∈o.op.operands,x.eval y=(az AF E (E.map fun e=> x.tmps.getD e.2 undef)).eval y:=by
   intro y hy
   refine gq fun t ht=> ?_
   subst ht
   rw [hFx]
   by_cases c1:t∈E.map (·.2)
   ·rw [aG c1]
   ·rw [aA c1]
    rcases hC.looks t hy with c2 | c2
    ·exact absurd c2 c1
    by_cases hc:∃ j,j < N∧aM ops j=some t
    ·obtain⟨j,hj,hjt⟩:=hc
     refine x3 j hj (fun e heE hej=> c1 ?_) (hw j (c2 j hj hjt)) t hjt
     obtain⟨k,hk⟩:=List.getElem?_of_mem heE
     rcases(iH hH hk).2.1 with⟨q,-⟩ | ⟨q,-⟩
     ·rw [hej,hjt] at q
      exact List.mem_map.2 ⟨e,heE,(bD q).symm⟩
     ·rw [hej,hjt] at q
      cases q
    ·have hno:∀ j,j < N→aM ops j≠some t:=fun j hj e=> hc ⟨j,hj,e⟩
     rw [x4 t (fun j hj e=> absurd e (hno j hj)),hsame t (fun j hj _=> hno j hj)]
  have hex:=execOp_congr o hC.sel hev
  have hneed:∀ k∈p.2,(E.map fun e=> l.getD e.1 false).getD k false=true:=by
   intro k hk
   obtain⟨e,he1,he2⟩:=hC.need k hk
   rw [di,bX,he1]
   exact mS hS hw he2
  have hO:=hob i o p ho hC.plan
  cases hdo:o.dst with
  | none=>
   have hdi:aM ops i=none:=by unfold aM;rw [ho];exact hdo
   obtain⟨pk,nd⟩:=p
   cases pk with
   | none=>
    obtain⟨d',v,g1,-⟩:=hO
    rw [hdo] at g1
    cases g1
   | some k=>
    rcases hO with⟨d',g1,-⟩ | ⟨-,g3⟩
    ·rw [hdo] at g1
     cases g1
    obtain⟨ek,hk,hek⟩:=hC.yes k rfl
    have qk:=iH hH hk
    have hbk:(E.map fun e=> l.getD e.1 false).getD k false=false:=by
     rw [di,bX,hk]
     show l.getD ek.1 false=false
     rw [hek]
     exact ec hl
    have hkl:k < E.length:=(aB hk).1
    have hm:∀ m e,E[m]? =some e→e.1=i→m=k:=by
     intro m e hme h
     have q:=(iH hH hme).2.2
     have q':=qk.2.2
     rw [h] at q
     rw [hek,q] at q'
     exact bD (bD q')
    have q1:(E.map fun e=> (l.setIfInBounds i true).getD e.1 false)=(E.map fun e=> l.getD e.1 false).set k true:=by
     refine List.ext_getElem? fun m=> ?_
     rw [List.getElem?_set,bX,bX]
     cases hE:E[m]? with
     | none=>
      have:E.length≤m:=List.getElem?_eq_none_iff.1 hE
      rw [aA (by omega)];rfl
     | some e=>
      simp only [Option.map_some]
      rw [aZ hil]
      by_cases c:k=m
      ·subst c
       rw [hk] at hE
       obtain rfl:=bD hE
       rw [aG hek.symm,aG rfl,aG (by simpa using hkl)]
      ·rw [aA (fun h=> c (hm m e hE h.symm).symm),aA c]
    unfold wpOp
    rw [ho]
    simp only [Region.wanted,hC.guard,if_true]
    refine ax ?_
    have h1:=g3 _ _ W (by simp) (by simp) hneed hbk x5 (fun a' w'=> a'=az AF E (E.map fun e=> x.tmps.getD e.2 undef)∧St ((E.map fun e=> l.getD e.1 false).set k true) (E.map fun e=> x.tmps.getD e.2 undef) w') (fun _ _ _=> False) (fun W' h=> ⟨rfl,h⟩)
    have h2:o.wp P x W (fun a' w'=> a'=x∧St ((E.map fun e=> l.getD e.1 false).set k true) (E.map fun e=> x.tmps.getD e.2 undef) w') Q:=by
     unfold Oper.wp at h1 ⊢
     rw [hex]
     exact kO hdo h1
    refine Oper.wp_mono ?_ h2
    rintro a' w' ⟨rfl,hv⟩
    refine⟨hs2,hS2,x1,x2,?_,?_,?_⟩
    ·intro j hj m1 hjl t hjt
     have hji:j≠i:=fun c=> by subst c;rw [hdi] at hjt;cases hjt
     rw [aZ hil,aA (fun c=> hji c.symm)] at hjl
     exact x3 j hj m1 hjl t hjt
    ·intro t ht
     refine x4 t fun j hj hjt=> ?_
     have:=ht j hj hjt
     rw [aZ hil] at this
     split at this
     ·cases this
     ·exact this
    ·rw [q1]
     exact hv
  | some d=>
   have hd1:=hdo
   have hdi:aM ops i=some d:=by unfold aM;rw [ho];exact hd1
   have hput:d < a.tmps.size→∀ (C:Value→World→Prop),(∀ (K:Act→World→Prop) (Q:Exit→Act→World→Prop),(∀ v W',C v W'→K ((az AF E (E.map fun e=> x.tmps.getD e.2 undef)).put (some d) v) W')→o.wp P (az AF E (E.map fun e=> x.tmps.getD e.2 undef)) W K Q)→wpOp P ops Q i (fun a' w'=> ∃ v,a'=x.put (some d) v∧C v w') x W:=by
    intro hdlt C hC2
    unfold wpOp
    rw [ho]
    simp only [Region.wanted,hC.guard,if_true]
    refine ax ?_
    have h1:=hC2 (fun a' w'=> ∃ v,a'=(az AF E (E.map fun e=> x.tmps.getD e.2 undef)).put (some d) v∧C v w') (fun _ _ _=> False) (fun v W' h=> ⟨v,rfl,h⟩)
    unfold Oper.wp at h1 ⊢
    rw [hex]
    exact jr hd1 (by rw [gr,hsz];exact hdlt) h1
   have hgd:d < a.tmps.size→∀ (v:Value) (t:Nat),(x.put (some d) v).tmps.getD t undef=if d=t then v else x.tmps.getD t undef:=by
    intro hdlt v t
    rw [Array.getD_eq_getD_getElem?,gd]
    by_cases e:d=t
    ·rw [aG e,aG e,aG (by rw [x2];exact hdlt)];rfl
    ·rw [aA e,aA e,Array.getD_eq_getD_getElem?]
   have hother:d < a.tmps.size→∀ e∈E,e.1≠i→d≠e.2:=by
    intro hdlt e heE hne c
    obtain⟨k,hk⟩:=List.getElem?_of_mem heE
    have q:=iH hH hk
    rcases q.2.1 with⟨q1,-⟩ | ⟨-,q2⟩
    ·rcases hC.one e.1 q.1 hne with h | h
     ·rw [q1] at h;cases h
     ·exact h (by rw [q1,hdi,c])
    ·exact absurd q2 (by rw [← c,← hz];exact Nat.not_le.2 hdlt)
   have hfr:d < a.tmps.size→∀ v W',(p.1=none→AF.tmps[d]? =some v)→St (E.map fun e=> (l.setIfInBounds i true).getD e.1 false) (E.map fun e=> (x.put (some d) v).tmps.getD e.2 undef) W'→
     ((l.setIfInBounds i true).size=ops.size∧Shut ops (l.setIfInBounds i true)∧(x.put (some d) v).defers=a.defers∧(x.put (some d) v).tmps.size=a.tmps.size∧
  (∀ j,j < N→(∀ e∈E,e.1≠j)→(l.setIfInBounds i true).getD j false=true→∀ t,aM ops j=some t→(x.put (some d) v).tmps[t]? =AF.tmps[t]?)∧
  (∀ t,(∀ j,j < N→aM ops j=some t→(l.setIfInBounds i true).getD j false=false)→(x.put (some d) v).tmps[t]? =a.tmps[t]?)∧St (E.map fun e=> (l.setIfInBounds i true).getD e.1 false) (E.map fun e=> (x.put (some d) v).tmps.getD e.2 undef) W'):=by
    intro hdlt v W' hv hSt
    have hlt:d < x.tmps.size:=by rw [x2];exact hdlt
    refine⟨hs2,hS2,x1,by simpa [Act.put] using x2,?_,?_,hSt⟩
    ·intro j hj m1 hjl t hjt
     rw [gd]
     by_cases e:d=t
     ·subst e
      rw [aG rfl,aG hlt]
      have hji:j=i:=Classical.byContradiction fun c=> by
       rcases hC.one j hj c with h | h
       ·rw [hjt] at h;cases h
       ·exact h (by rw [hjt,hdi])
      subst hji
      refine(hv ?_).symm
      cases hp:p.1 with
      | none=> rfl
      | some k=> obtain⟨e,he1,he2⟩:=hC.yes k hp;exact absurd he2 (m1 e (aJ he1))
     ·rw [aA e]
      have hji:j≠i:=fun c=> by subst c;rw [hdi] at hjt;exact e (bD hjt)
      rw [aZ hil,aA (fun c=> hji c.symm)] at hjl
      exact x3 j hj m1 hjl t hjt
    ·intro t ht
     rw [gd]
     have hdt:d≠t:=fun c=> by
      subst c
      have:=ht i hi hdi
      rw [aZ hil,aG rfl] at this
      cases this
     rw [aA hdt]
     refine x4 t fun j hj hjt=> ?_
     have:=ht j hj hjt
     rw [aZ hil] at this
     split at this
     ·cases this
     ·exact this
   obtain⟨pk,nd⟩:=p
   cases pk with
   | none=>
    obtain⟨d',v,g1,g2,g3⟩:=hO
    rw [hd1] at g1
    obtain rfl:d=d':=bD g1
    have hdlt:d < a.tmps.size:=by
     have:=(Array.getElem?_eq_some_iff.1 g2).1
     rw [hsz] at this
     exact this
    have hE:=hC.no rfl
    refine wpOp_mono ?_ (hput hdlt (fun v' W'=> v'=v∧St (E.map fun e=> l.getD e.1 false) (E.map fun e=> x.tmps.getD e.2 undef) W') (fun K Q hK=> g3 _ _ W (by simp) (by simp) hneed x5 K Q (fun W' h=> hK v W' ⟨rfl,h⟩)))
    rintro a' w' ⟨v',rfl,rfl,hv⟩
    refine hfr hdlt v' w' (fun _=> g2) ?_
    have q1:(E.map fun e=> (l.setIfInBounds i true).getD e.1 false)=E.map fun e=> l.getD e.1 false:=List.map_congr_left fun e he=> by
     rw [aZ hil,aA (fun c=> hE e he c.symm)]
    have q2:(E.map fun e=> (x.put (some d) v').tmps.getD e.2 undef)=E.map fun e=> x.tmps.getD e.2 undef:=List.map_congr_left fun e he=> by
     rw [hgd hdlt,aA (hother hdlt e he (hE e he))]
    rw [q1,q2]
    exact hv
   | some k=>
    rcases hO with⟨d',g1,g3⟩ | ⟨g1,-⟩
    rotate_left
    ·rw [hd1] at g1;cases g1
    rw [hd1] at g1
    obtain rfl:d=d':=bD g1
    obtain⟨ek,hk,hek⟩:=hC.yes k rfl
    have qk:=iH hH hk
    have hq:d=ek.2∧ek.2 < z:=by
     rcases qk.2.1 with⟨q1,q2⟩ | ⟨q1,-⟩
     ·rw [hek,hdi] at q1
      exact⟨bD q1,q2⟩
     ·rw [hek,hdi] at q1
      cases q1
    have hde:=hq.1
    have hdlt:d < a.tmps.size:=by rw [hde,hz];exact hq.2
    have hbk:(E.map fun e=> l.getD e.1 false).getD k false=false:=by
     rw [di,bX,hk]
     show l.getD ek.1 false=false
     rw [hek]
     exact ec hl
    refine wpOp_mono ?_ (hput hdlt (fun v' W'=> St ((E.map fun e=> l.getD e.1 false).set k true) ((E.map fun e=> x.tmps.getD e.2 undef).set k v') W') (fun K Q hK=> g3 _ _ W (by simp) (by simp) hneed hbk x5 K Q hK))
    rintro a' w' ⟨v',rfl,hv⟩
    refine hfr hdlt v' w' (fun c=> by cases c) ?_
    have hkl:k < E.length:=(aB hk).1
    have hm:∀ m e,E[m]? =some e→e.1=i→m=k:=by
     intro m e hme h
     have q:=(iH hH hme).2.2
     have q':=qk.2.2
     rw [h] at q
     rw [hek,q] at q'
     exact bD (bD q')
    have q1:(E.map fun e=> (l.setIfInBounds i true).getD e.1 false)=(E.map fun e=> l.getD e.1 false).set k true:=by
     refine List.ext_getElem? fun m=> ?_
     rw [List.getElem?_set,bX,bX]
     cases hE:E[m]? with
     | none=>
      have:E.length≤m:=List.getElem?_eq_none_iff.1 hE
      rw [aA (by omega)];rfl
     | some e=>
      simp only [Option.map_some]
      rw [aZ hil]
      by_cases c:k=m
      ·subst c
       rw [hk] at hE
       obtain rfl:=bD hE
       rw [aG hek.symm,aG rfl,aG (by simpa using hkl)]
      ·rw [aA (fun h=> c (hm m e hE h.symm).symm),aA c]
    have q2:(E.map fun e=> (x.put (some d) v').tmps.getD e.2 undef)=(E.map fun e=> x.tmps.getD e.2 undef).set k v':=by
     refine List.ext_getElem? fun m=> ?_
     rw [List.getElem?_set,bX,bX]
     cases hE:E[m]? with
     | none=>
      have:E.length≤m:=List.getElem?_eq_none_iff.1 hE
      rw [aA (by omega)];rfl
     | some e=>
      simp only [Option.map_some]
      rw [hgd hdlt]
      by_cases c:k=m
      ·subst c
       rw [hk] at hE
       obtain rfl:=bD hE
       rw [aG hde,aG rfl,aG (by simpa using hkl)]
      ·have hne:e.1≠i:=fun h=> c (hm m e hE h).symm
       rw [aA (hother hdlt e (aJ hE) hne),aA c]
    rw [q1,q2]
    exact hv
 ·rintro l x W ⟨hs,hS,x1,x2,x3,x4,x5⟩ hall
  have hall':∀ j,j < N→l.getD j false=true:=fun j hj=> kX (by omega) (hall j (by omega))
  have q1:(E.map fun e=> l.getD e.1 false)=E.map fun _=> true:=List.map_congr_left fun e he=> by
   obtain⟨k,hk⟩:=List.getElem?_of_mem he
   exact hall' e.1 (iH hH hk).1
  rw [q1] at x5
  have hFx:=gu AF x (by rw [hsz,x2]) E
  have hx:x=az AF E (E.map fun e=> x.tmps.getD e.2 undef):=by
   refine nQ (Array.ext_getElem? fun t=> ?_) (by rw [fV,hdf,x1])
   rw [hFx]
   by_cases c1:t∈E.map (·.2)
   ·rw [aG c1]
   ·rw [aA c1]
    by_cases hc:∃ j,j < N∧aM ops j=some t
    ·obtain⟨j,hj,hjt⟩:=hc
     refine x3 j hj (fun e heE hej=> c1 ?_) (hall' j hj) t hjt
     obtain⟨k,hk⟩:=List.getElem?_of_mem heE
     rcases(iH hH hk).2.1 with⟨q,-⟩ | ⟨q,-⟩
     ·rw [hej,hjt] at q
      exact List.mem_map.2 ⟨e,heE,(bD q).symm⟩
     ·rw [hej,hjt] at q
      cases q
    ·have hno:∀ j,j < N→aM ops j≠some t:=fun j hj e=> hc ⟨j,hj,e⟩
     rw [x4 t (fun j hj e=> absurd e (hno j hj)),hsame t (fun j hj _=> hno j hj)]
  have ht:=done _ W (by simp) x5
  rw [← hx] at ht
  exact ht
end
end
section
open Go.RowKit
def aC(w:World):Type:={ W:World // Below w.heap.size w W }
instance(w:World):Nonempty (aC w):=⟨⟨w,Below.refl _ _⟩⟩
theorem cM {P:Program} {id:Nat} {Q:Exit→Act→World→Prop} {a:Act} {w:World} {l:List Oper} (hm:P.follows .mixedOrders=true)(hB:Region.lexB .any l.toArray=true)
  (h:wpQuiet P l.toArray (fun W=> ∃ s:aC w,W=s.1) (fun a'=> ∀ w',(∃ s:aC w,w'=s.1)→Q .normal a' w') l a):(Code.region id l.toArray true).wp P Q a w:=
 wp_region_quiet (C:=fun W=> ∃ s:aC w,W=s.1) hm hB ⟨⟨w.drew,(Below.refl _ _).drew⟩,rfl⟩ (by simpa using h)
theorem dy {P:Program} {f:FuncId} {args:Array Value} {w:World} {v:Value} (s:aC w)(h:Calls P f args s.1 fun e w'=> e=.returned v∧Below s.1.heap.size s.1 w'):
  Calls P f args s.1 fun e w'=> e=.returned v∧∃ t:aC w,w'=t.1:=h.mono fun _ w' q=> ⟨q.1,⟨w',ai s.2 q.2⟩,rfl⟩
end
section
open Go.RowKit Mr
def kZ:bQ→Value
  | (k,t,a,b,nm,ot)=> .agg #[.int .i64 k,.int .i64 t,.int .i64 a,.int .i64 b,.string nm,.string ot]
def fD(name:ByteArray)(x:LifeS)(vm vo:Value):List Value:=
  [.string name,.int .i64 (x.n:Int),.int .i64 x.at_,.int .i64 x.made.1,.int .i64 x.made.2.1,.int .i64 x.made.2.2.1,.int .i64 x.made.2.2.2.1,.string x.made.2.2.2.2.1,.string x.made.2.2.2.2.2,vm,vo,
   .int .i64 x.thr,.int .i64 x.hot,.bool x.tst,.int .i64 x.tes,.int .i64 x.fau,.int .i64 x.mov,.bool x.scr]
structure bw(T:TypeId)(B off:Nat)(name:ByteArray)(x:LifeS)(vm vo:Value)(W:World):Prop where
  blk:∃ cs:Array Value,W.heap[B]? =some (.cells cs T (0,0))∧∀ (j:Nat) (u:Value),(fD name x vm vo)[j]? =some u→cs[off+j]? =some u
  ms:bH vm x.ms W
  os:bH vo x.os W
section
variable {T:TypeId} {B off:Nat} {name:ByteArray} {x:LifeS} {vm vo:Value} {W w2:World}
theorem bw.step(h:bw T B off name x vm vo W)(hb:Below W.heap.size W w2):bw T B off name x vm vo w2:=by
  obtain⟨⟨cs,h1,h2⟩,h3,h4⟩:=h
  exact⟨⟨cs,an h1 hb,h2⟩,h3.step hb,h4.step hb⟩
theorem bw.cell(h:bw T B off name x vm vo W){j:Nat} {u:Value} (hj:(fD name x vm vo)[j]? =some u):W.cell? ⟨B,off+j,none⟩=some u:=by
  obtain⟨⟨cs,h1,h2⟩,h3,h4⟩:=h
  exact ah h1 (h2 j u hj)
theorem bw.lt(h:bw T B off name x vm vo W):B < W.heap.size:=by
  obtain⟨⟨cs,h1,h2⟩,h3,h4⟩:=h
  exact ak h1
theorem bw.free(h:bw T B off name x vm vo W)(j:Nat):W.frozen? ⟨B,off+j,none⟩=false:=by
  obtain⟨⟨cs,h1,h2⟩,h3,h4⟩:=h
  exact aR h1
theorem bw.open1(h:bw T B off name x vm vo W):W.cell? ⟨B,off,none⟩=some (.string name)∧W.cell? ⟨B,off+1,none⟩=some (.int .i64 (x.n:Int))∧W.cell? ⟨B,off+2,none⟩=some (.int .i64 x.at_)∧W.cell? ⟨B,off+9,none⟩=some vm∧W.cell? ⟨B,off+10,none⟩=some vo∧W.cell? ⟨B,off+17,none⟩=some (.bool x.scr)∧B < W.heap.size:=
  ⟨h.cell (j:=0) rfl,h.cell (j:=1) rfl,h.cell (j:=2) rfl,h.cell (j:=9) rfl,h.cell (j:=10) rfl,h.cell (j:=17) rfl,h.lt⟩
end
theorem rS {T:TypeId} {B off:Nat} {name:ByteArray} {x:LifeS} {vm vo:Value} {w:World} (h:bw T B off name x vm vo w)(hn:x.n=0)(k t a b:Int)(nm ot:ByteArray):
    Calls Tryz.prog 43 #[.pointer (some ⟨B,off,none⟩),.agg #[.int .i64 k,.int .i64 t,.int .i64 a,.int .i64 b,.string nm,.string ot]] w fun e w'=> e=.returned (.bool (decide (k=1)))∧Below w.heap.size w w':=by
  obtain⟨c0,c1,c2,c9,c10,c17,cl⟩:=h.open1
  replace c1:w.cell? ⟨B,off+1,none⟩=some (.int .i64 0):=by rw [hn] at c1;exact c1
  clear h hn
  go_enter Tryz.func43,Tryz.ntmps43
  go_wp2_with fail
  go_ret
  exact⟨rfl,(by repeat' (first | exact Below.refl _ _ | assumption | apply aI | apply bg | apply aK | (refine cB ?_ ?_ _) | (refine ai ?_ (by assumption)) | omega | (simp <;> omega)))⟩
theorem oG {T:TypeId} {B off:Nat} {name:ByteArray} {x:LifeS} {vm vo:Value} {w:World} (h:bw T B off name x vm vo w)(hn:¬ x.n=0)(k t a b:Int)(nm ot:ByteArray)(ht:t < x.at_∨(¬ t < x.at_∧x.scr=true)):
    Calls Tryz.prog 43 #[.pointer (some ⟨B,off,none⟩),.agg #[.int .i64 k,.int .i64 t,.int .i64 a,.int .i64 b,.string nm,.string ot]] w fun e w'=> e=.returned (.bool false)∧Below w.heap.size w w':=by
  obtain⟨c0,c1,c2,c9,c10,c17,cl⟩:=h.open1
  have hn2:((x.n:Int)==0)=false:=by simpa using hn
  rcases ht with ht | ⟨ht,hs⟩
  · clear h hn
    go_enter Tryz.func43,Tryz.ntmps43
    go_upto_region 3 with fail
    go_quiet (fail)
    go_wp2_with fail
    go_ret
    exact⟨rfl,(by repeat' (first | exact Below.refl _ _ | assumption | apply aI | apply bg | apply aK | (refine cB ?_ ?_ _) | (refine ai ?_ (by assumption)) | omega | (simp <;> omega)))⟩
  · rw [hs] at c17
    have ht2:decide (t < x.at_)=false:=bv ht
    clear h hn hs ht
    go_enter Tryz.func43,Tryz.ntmps43
    go_upto_region 3 with fail
    go_quiet (fail)
    go_wp2_with fail
    go_ret
    exact⟨rfl,(by repeat' (first | exact Below.refl _ _ | assumption | apply aI | apply bg | apply aK | (refine cB ?_ ?_ _) | (refine ai ?_ (by assumption)) | omega | (simp <;> omega)))⟩
structure kt(bx be B off:Nat)(k t a b:Int)(nm ot:ByteArray)(W:World):Prop where
  p:W.cell? ⟨bx,0,none⟩=some (.pointer (some ⟨B,off,none⟩))
  e0:W.cell? ⟨be,0,none⟩=some (.int .i64 k)
  e4:W.cell? ⟨be,4,none⟩=some (.string nm)
  e5:W.cell? ⟨be,5,none⟩=some (.string ot)
  l1:bx < W.heap.size
  l2:be < W.heap.size
theorem kt.step {bx be B off:Nat} {k t a b:Int} {nm ot:ByteArray} {W w2:World} (h:kt bx be B off k t a b nm ot W)(hb:Below W.heap.size W w2):kt bx be B off k t a b nm ot w2:=
  ⟨ag h.p hb,ag h.e0 hb,ag h.e4 hb,ag h.e5 hb,ar h.l1 hb.size,ar h.l2 hb.size⟩
theorem jM {v:Value} {l:List ByteArray} {w:World} (h:bH v l w)(hl:l.length≤1000000)(s:ByteArray):Hid (∀ W:aC w,Calls Tryz.prog 99 #[v,.string s] W.1 fun e w'=> e=.returned (.bool (hasT l s))∧∃ t:aC w,w'=t.1):=
  fun W=> (nP (h.step W.2) hl s).mono fun e w' q=> ⟨q.1,W,q.2⟩
theorem tC {T:TypeId} {B off:Nat} {name:ByteArray} {x:LifeS} {vm vo:Value} {w:World} (h:bw T B off name x vm vo w)(bx be:Nat)(k t a b:Int)(nm ot:ByteArray)(hb:kt bx be B off k t a b nm ot w)(hl:x.ms.length≤1000000):
    Calls Tryz.prog 98 #[.pointer (some ⟨bx,0,none⟩),.pointer (some ⟨be,0,none⟩)] w fun e w'=> e=.returned (.bool (!(hasT x.ms nm) && decide (x.ms.length < 32) && !(fS ot name)))∧Below w.heap.size w w':=by
  have CX:=jM h.ms hl nm
  obtain⟨am,cm,rfl,-⟩:=h.ms
  unfold fS
  have QL:∀ s:aC w,bw T B off name x _ _ s.1:=fun s=> h.step s.2
  have QB:∀ s:aC w,kt bx be B off k t a b nm ot s.1:=fun s=> hb.step s.2
  have c0:=fun s=> (QL s).open1.1
  have c9:=fun s=> (QL s).open1.2.2.2.1
  have c10:=fun s=> (QL s).open1.2.2.2.2.1
  have p0:=fun s=> (QB s).p
  have p4:=fun s=> (QB s).e4
  have p5:=fun s=> (QB s).e5
  clear QL QB
  clear hl h hb
  generalize hasT x.ms nm=r1 at*
  cases r1
  · by_cases hc:x.ms.length < 32
    · rw [bF hc]
      have hc2:(x.ms.length:Int) < 32:=by omega
      clear hc
      go_enter Tryz.func98,Tryz.ntmps98
      go_upto_region 1 with fail
      refine cM (by kernel_rfl) (by kernel_rfl) ?_
      repeat(quiet_step (with_reducible exact CX.out _))
      refine wpQuiet_nil ?_
      intro W2 hw'
      obtain⟨⟨W3,hW3⟩,hw''⟩:=hw'
      dsimp only at hw''
      subst hw''
      go_wp2_with fail
      go_ret
      exact⟨rfl,hW3⟩
    · rw [bv hc]
      have hc2:¬ (x.ms.length:Int) < 32:=by omega
      clear hc
      go_enter Tryz.func98,Tryz.ntmps98
      go_upto_region 1 with fail
      refine cM (by kernel_rfl) (by kernel_rfl) ?_
      repeat(quiet_step (with_reducible exact CX.out _))
      refine wpQuiet_nil ?_
      intro W2 hw'
      obtain⟨⟨W3,hW3⟩,hw''⟩:=hw'
      dsimp only at hw''
      subst hw''
      go_wp2_with fail
      go_ret
      exact⟨rfl,hW3⟩
  · go_enter Tryz.func98,Tryz.ntmps98
    go_upto_region 1 with fail
    refine cM (by kernel_rfl) (by kernel_rfl) ?_
    repeat(quiet_step (with_reducible exact CX.out _))
    refine wpQuiet_nil ?_
    intro W2 hw'
    obtain⟨⟨W3,hW3⟩,hw''⟩:=hw'
    dsimp only at hw''
    subst hw''
    go_wp2_with fail
    go_ret
    exact⟨rfl,hW3⟩
theorem tG {T:TypeId} {B off:Nat} {name:ByteArray} {x:LifeS} {vm vo:Value} {w:World} (h:bw T B off name x vm vo w)(bx be:Nat)(k t a b:Int)(nm ot:ByteArray)(hb:kt bx be B off k t a b nm ot w)(hl:x.ms.length≤1000000):
    Calls Tryz.prog 100 #[.pointer (some ⟨bx,0,none⟩),.pointer (some ⟨be,0,none⟩)] w fun e w'=> e=.returned (.bool (hasT x.ms nm && !(fS ot name)))∧Below w.heap.size w w':=by
  have CX:=jM h.ms hl nm
  unfold fS
  have QL:∀ s:aC w,bw T B off name x _ _ s.1:=fun s=> h.step s.2
  have QB:∀ s:aC w,kt bx be B off k t a b nm ot s.1:=fun s=> hb.step s.2
  have c0:=fun s=> (QL s).open1.1
  have c9:=fun s=> (QL s).open1.2.2.2.1
  have c10:=fun s=> (QL s).open1.2.2.2.2.1
  have p0:=fun s=> (QB s).p
  have p4:=fun s=> (QB s).e4
  have p5:=fun s=> (QB s).e5
  clear QL QB
  clear hl h hb
  generalize hasT x.ms nm=r1 at*
  cases r1
  · go_enter Tryz.func100,Tryz.ntmps100
    go_upto_region 1 with fail
    refine cM (by kernel_rfl) (by kernel_rfl) ?_
    repeat(quiet_step (with_reducible exact CX.out _))
    refine wpQuiet_nil ?_
    intro W2 hw'
    obtain⟨⟨W3,hW3⟩,hw''⟩:=hw'
    dsimp only at hw''
    subst hw''
    go_wp2_with fail
    go_ret
    exact⟨rfl,hW3⟩
  · go_enter Tryz.func100,Tryz.ntmps100
    go_upto_region 1 with fail
    refine cM (by kernel_rfl) (by kernel_rfl) ?_
    repeat(quiet_step (with_reducible exact CX.out _))
    refine wpQuiet_nil ?_
    intro W2 hw'
    obtain⟨⟨W3,hW3⟩,hw''⟩:=hw'
    dsimp only at hw''
    subst hw''
    go_wp2_with fail
    go_ret
    exact⟨rfl,hW3⟩
theorem tH {T:TypeId} {B off:Nat} {name:ByteArray} {x:LifeS} {vm vo:Value} {w:World} (h:bw T B off name x vm vo w)(bx be:Nat)(k t a b:Int)(nm ot:ByteArray)(hb:kt bx be B off k t a b nm ot w)(hl:x.os.length≤1000000):
    Calls Tryz.prog 101 #[.pointer (some ⟨bx,0,none⟩),.pointer (some ⟨be,0,none⟩)] w fun e w'=> e=.returned (.bool (!(hasT x.os nm)))∧Below w.heap.size w w':=by
  have CX:=jM h.os hl nm
  have QL:∀ s:aC w,bw T B off name x _ _ s.1:=fun s=> h.step s.2
  have QB:∀ s:aC w,kt bx be B off k t a b nm ot s.1:=fun s=> hb.step s.2
  have c0:=fun s=> (QL s).open1.1
  have c9:=fun s=> (QL s).open1.2.2.2.1
  have c10:=fun s=> (QL s).open1.2.2.2.2.1
  have p0:=fun s=> (QB s).p
  have p4:=fun s=> (QB s).e4
  have p5:=fun s=> (QB s).e5
  clear QL QB
  clear hl h hb
  generalize hasT x.os nm=r1 at*
  go_enter Tryz.func101,Tryz.ntmps101
  go_upto_region 1 with fail
  refine cM (by kernel_rfl) (by kernel_rfl) ?_
  repeat(quiet_step (with_reducible exact CX.out _))
  refine wpQuiet_nil ?_
  intro W2 hw'
  obtain⟨⟨W3,hW3⟩,hw''⟩:=hw'
  dsimp only at hw''
  subst hw''
  go_wp2_with fail
  go_ret
  exact⟨rfl,hW3⟩
theorem tJ {T:TypeId} {B off:Nat} {name:ByteArray} {x:LifeS} {vm vo:Value} {w:World} (h:bw T B off name x vm vo w)(bx be:Nat)(k t a b:Int)(nm ot:ByteArray)(hb:kt bx be B off k t a b nm ot w)(hl:x.os.length≤1000000):
    Calls Tryz.prog 102 #[.pointer (some ⟨bx,0,none⟩),.pointer (some ⟨be,0,none⟩)] w fun e w'=> e=.returned (.bool (hasT x.os nm))∧Below w.heap.size w w':=by
  have CX:=jM h.os hl nm
  have QL:∀ s:aC w,bw T B off name x _ _ s.1:=fun s=> h.step s.2
  have QB:∀ s:aC w,kt bx be B off k t a b nm ot s.1:=fun s=> hb.step s.2
  have c0:=fun s=> (QL s).open1.1
  have c9:=fun s=> (QL s).open1.2.2.2.1
  have c10:=fun s=> (QL s).open1.2.2.2.2.1
  have p0:=fun s=> (QB s).p
  have p4:=fun s=> (QB s).e4
  have p5:=fun s=> (QB s).e5
  clear QL QB
  clear hl h hb
  generalize hasT x.os nm=r1 at*
  go_enter Tryz.func102,Tryz.ntmps102
  go_upto_region 1 with fail
  refine cM (by kernel_rfl) (by kernel_rfl) ?_
  repeat(quiet_step (with_reducible exact CX.out _))
  refine wpQuiet_nil ?_
  intro W2 hw'
  obtain⟨⟨W3,hW3⟩,hw''⟩:=hw'
  dsimp only at hw''
  subst hw''
  go_wp2_with fail
  go_ret
  exact⟨rfl,hW3⟩
theorem tK {T:TypeId} {B off:Nat} {name:ByteArray} {x:LifeS} {vm vo:Value} {w:World} (h:bw T B off name x vm vo w)(bx be:Nat)(k t a b:Int)(nm ot:ByteArray)(hb:kt bx be B off k t a b nm ot w):
    Calls Tryz.prog 103 #[.pointer (some ⟨bx,0,none⟩)] w fun e w'=> e=.returned (.bool (decide (x.ms.length=0)))∧Below w.heap.size w w':=by
  obtain⟨am,cm,rfl,-⟩:=h.ms
  have c9:=h.open1.2.2.2.1
  have p0:=hb.p
  have cl:=h.lt
  have hd:decide (x.ms.length=0)=((x.ms.length:Int)==0):=by
    by_cases e:x.ms.length=0
    · rw [bF e,e];rfl
    · rw [bv e];symm;simpa using e
  rw [hd]
  clear h hb hd
  go_enter Tryz.func103,Tryz.ntmps103
  go_wp2_with fail
  go_ret
  exact⟨rfl,Below.refl _ _⟩
theorem tL(w:World):Calls Tryz.prog 97 #[] w fun e w'=> e=.returned (.bool false)∧Below w.heap.size w w':=by
  go_enter Tryz.func97,Tryz.ntmps97
  go_wp2_with fail
  go_ret
  exact⟨rfl,Below.refl _ _⟩
end
end Go.Proofs.YtmpilgkfbibhlaaGreatDoor
