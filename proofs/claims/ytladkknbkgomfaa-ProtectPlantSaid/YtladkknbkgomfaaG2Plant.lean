/-
  Inside a fence: the same rule, where each reading operation is carried out in the frame that all of them leave.
-/
import Derived.Test.YtladkknbkgomfaaG1Plant
import Derived.Deep.CutRange
import Derived.Deep.CutBlock
import Derived.KernelRfl
import Derived.StillTail
set_option linter.unusedSimpArgs false
set_option linter.unusedVariables false
namespace Go.Proofs.Ytladkknbkgomfaa
open Go.RowKit

section
variable {F : Fence} {n : Nat} {P : Program} {ops : Array Oper} {Q : Exit → Act → World → Prop}

def dstOf (ops : Array Oper) (i : Nat) : Option Nat := (ops[i]?).bind (·.dst)
def plainOp : Op → Bool
  | .select .. => false
  | .defer .. => false
  | _ => true
/-- What is asked of the N operations: no guard; each writes a slot of its own; what it looks at is written by operations that it waits for, or by none of them. -/
def headB (ops : Array Oper) (N : Nat) : Bool := (List.range N).all fun i => match ops[i]? with
  | none => false
  | some o => o.guard.isNone && plainOp o.op && o.dst.isSome && (o.op.operands.all fun x => match x with
      | .tmp t => (List.range N).all fun j => decide (dstOf ops j ≠ some t) || (waits ops i).contains j
      | _ => true) && (List.range N).all fun j => decide (j = i) || decide (dstOf ops j ≠ dstOf ops i)
structure HeadAt (ops : Array Oper) (N i : Nat) (o : Oper) : Prop where
  guard : o.guard = none
  sel : ∀ cs b, o.op ≠ .select cs b
  dfr : ∀ c, o.op ≠ .defer c
  dst : ∃ d, o.dst = some d
  looks : ∀ t, Operand.tmp t ∈ o.op.operands → ∀ j, j < N → dstOf ops j = some t → j ∈ waits ops i
  one : ∀ j, j < N → j ≠ i → dstOf ops j ≠ dstOf ops i
theorem head_at {N i : Nat} {o : Oper} (h : headB ops N = true) (hi : i < N) (ho : ops[i]? = some o) : HeadAt ops N i o := by
  have h1 := List.all_eq_true.1 h i (List.mem_range.2 hi)
  rw [ho] at h1
  simp only [Bool.and_eq_true] at h1
  obtain ⟨⟨⟨⟨h1, h2⟩, h3⟩, h4⟩, h5⟩ := h1
  refine ⟨by simpa using h1, ?_, ?_, Option.isSome_iff_exists.1 h3, ?_, ?_⟩
  · intro cs b e; rw [e] at h2; simp [plainOp] at h2
  · intro c e; rw [e] at h2; simp [plainOp] at h2
  · intro t ht j hj hd
    rw [Array.all_eq_true'] at h4
    have h6 := h4 (.tmp t) ht
    have h7 := List.all_eq_true.1 h6 j (List.mem_range.2 hj)
    simp only [Bool.or_eq_true, decide_eq_true_eq] at h7
    rcases h7 with h7 | h7
    · exact absurd hd h7
    · simpa using h7
  · intro j hj hne
    have h6 := List.all_eq_true.1 h5 j (List.mem_range.2 hj)
    simp only [Bool.or_eq_true, decide_eq_true_eq] at h6
    rcases h6 with h6 | h6
    · exact absurd h6 hne
    · exact h6

theorem eval_same {a b : Act} {x : Operand} (h : ∀ t, x = .tmp t → a.tmps[t]? = b.tmps[t]?) : a.eval x = b.eval x := by
  cases x with
  | tmp t => simp only [Act.eval, Array.getD_eq_getD_getElem?]; rw [h t rfl]
  | const v => rfl
  | global g => rfl
  | func f => rfl

/-- What each of the N operations does in the frame AF. -/
def OpVal (P : Program) (AF : Act) (w : World) (o : Oper) : Prop := ∃ d v, o.dst = some d ∧ AF.tmps[d]? = some v ∧ (execOp AF.eval o).run P w = .ok (.value v) w ∧ o.about P w AF.eval = none
def AllVals (P : Program) (AF : Act) (w : World) : List Oper → Prop
  | [] => True
  | o :: l => OpVal P AF w o ∧ AllVals P AF w l
theorem AllVals.at_ {AF : Act} {w : World} : ∀ {l : List Oper}, AllVals P AF w l → ∀ (i : Nat) (o : Oper), l[i]? = some o → OpVal P AF w o := by
  intro l
  induction l with
  | nil => intro _ i o h; simp at h
  | cons x l ih =>
    intro h i o ho
    cases i with
    | zero => simp at ho; subst ho; exact h.1
    | succ i => exact ih h.2 i o (by simpa using ho)

theorem regionIn_final {id : Nat} {a : Act} {w : World} (N : Nat) (AF : Act) (hm : P.follows .mixedOrders = true) (he : early ops = true) (hs0 : ops.size = N + 2)
    (hA : ((List.range N).all fun j => (ancs ops 6 N).contains j) = true) (hB : (waits ops (N + 1)).contains N = true) (hH : headB ops N = true)
    (hdf : AF.defers = a.defers) (hsz : AF.tmps.size = a.tmps.size) (hsame : ∀ t, (∀ j, j < N → dstOf ops j ≠ some t) → AF.tmps[t]? = a.tmps[t]?)
    (hv : AllVals P AF w.drew (ops.toList.take N))
    (tail : wpOpIn F n P ops Q N (fun a1 w1 => wpOpIn F n P ops Q (N + 1) (fun a2 w2 => Q .normal a2 w2) a1 w1) AF w.drew) :
    (Code.region id ops true).wpIn F n P Q a w := by
  have hval : ∀ i o, i < N → ops[i]? = some o → OpVal P AF w.drew o := fun i o hi ho => hv.at_ i o (by
    rw [List.getElem?_take_of_lt hi, Array.getElem?_toList]; exact ho)
  refine regionIn_head N hm he hs0 hA hB (fun l x => x.defers = a.defers ∧ x.tmps.size = a.tmps.size ∧ (∀ j, j < N → l.getD j false = true → ∀ t, dstOf ops j = some t → x.tmps[t]? = AF.tmps[t]?) ∧
    (∀ t, (∀ j, j < N → dstOf ops j = some t → l.getD j false = false) → x.tmps[t]? = a.tmps[t]?)) ?_ ?_ ?_
  · refine ⟨rfl, rfl, fun j hj h => ?_, fun _ _ => rfl⟩
    rw [Array.getD_eq_getD_getElem?] at h
    simp [hs0, show j < N + 2 by omega] at h
  · rintro i o hi ho l x ⟨x1, x2, x3, x4⟩ hls hl hd
    have hH' := head_at hH hi ho
    obtain ⟨d, v, hd1, hd2, hd3, hd4⟩ := hval i o hi ho
    have hw := waits_ok ho hd
    have hdi : dstOf ops i = some d := by unfold dstOf; rw [ho]; exact hd1
    have hev : ∀ y ∈ o.op.operands, x.eval y = AF.eval y := by
      intro y hy
      refine eval_same fun t ht => ?_
      subst ht
      by_cases hc : ∃ j, j < N ∧ dstOf ops j = some t
      · obtain ⟨j, hj, hjt⟩ := hc
        exact x3 j hj (hw j (hH'.looks t hy j hj hjt)) t hjt
      · have hno : ∀ j, j < N → dstOf ops j ≠ some t := fun j hj e => hc ⟨j, hj, e⟩
        rw [x4 t (fun j hj e => absurd e (hno j hj)), hsame t hno]
    have hex := execOp_congr o hH'.sel hev
    have hab := about_congr (P := P) o w.drew hev
    unfold wpOpIn
    rw [ho]
    simp only [Region.wanted, hH'.guard, if_true]
    unfold Oper.wpIn
    rw [Oper.semAt_eq _ _ _ hH'.dfr, hex, hd3, hab, hd4]
    refine ⟨fun f hf => (by cases hf), ?_⟩
    rw [Oper.uponIn_value, hd1]
    have hil : i < l.size := by rw [hls]; exact (Array.getElem?_eq_some_iff.1 ho).1
    refine ⟨rfl, x1, by simpa [Act.put] using x2, ?_, ?_⟩
    · intro j hj hjl t hjt
      simp only [Act.put]
      rw [Array.getElem?_setIfInBounds]
      by_cases e : d = t
      · subst e
        have hlt : d < x.tmps.size := by rw [x2, ← hsz]; exact (Array.getElem?_eq_some_iff.1 hd2).1
        rw [if_pos rfl, if_pos hlt, hd2]
      · rw [if_neg e]
        have hji : j ≠ i := fun c => by subst c; rw [hdi] at hjt; exact e (Option.some.inj hjt)
        rw [getD_set1 hil, if_neg (fun c => hji c.symm)] at hjl
        exact x3 j hj hjl t hjt
    · intro t ht
      simp only [Act.put]
      rw [Array.getElem?_setIfInBounds]
      have hdt : d ≠ t := fun c => by
        subst c
        have := ht i hi hdi
        rw [getD_set1 hil, if_pos rfl] at this
        cases this
      rw [if_neg hdt]
      refine x4 t fun j hj hjt => ?_
      have := ht j hj hjt
      rw [getD_set1 hil] at this
      split at this
      · cases this
      · exact this
  · rintro l x ⟨x1, x2, x3, x4⟩ hls hall
    have hx : x = AF := by
      obtain ⟨xt, xd⟩ := x
      obtain ⟨ft, fd⟩ := AF
      dsimp only at *
      have e1 : xt = ft := by
        refine Array.ext_getElem? fun t => ?_
        by_cases hc : ∃ j, j < N ∧ dstOf ops j = some t
        · obtain ⟨j, hj, hjt⟩ := hc
          exact x3 j hj (getD_tt (by omega) (hall j hj)) t hjt
        · have hno : ∀ j, j < N → dstOf ops j ≠ some t := fun j hj e => hc ⟨j, hj, e⟩
          rw [x4 t (fun j hj e => absurd e (hno j hj)), hsame t hno]
      rw [e1, x1, hdf]
    rw [hx]
    exact tail

theorem updAll_defers (a : Act) (l : List (Nat × Value)) : (updAll a l).defers = a.defers := by
  induction l with
  | nil => rfl
  | cons p l ih => exact ih
theorem updAll_size (a : Act) (l : List (Nat × Value)) : (updAll a l).tmps.size = a.tmps.size := by
  induction l with
  | nil => rfl
  | cons p l ih => simpa [updAll, Act.put] using ih
theorem updAll_same (a : Act) (l : List (Nat × Value)) (t : Nat) (h : ∀ p ∈ l, p.1 ≠ t) : (updAll a l).tmps[t]? = a.tmps[t]? := by
  induction l with
  | nil => rfl
  | cons p l ih =>
    have h1 := h p (List.mem_cons_self ..)
    simp only [updAll, Act.put]
    rw [Array.getElem?_setIfInBounds, if_neg h1]
    exact ih (fun q hq => h q (List.mem_cons_of_mem _ hq))
theorem regionIn_vals0 {id : Nat} {a : Act} {w : World} (N : Nat) (vals : List (Nat × Value)) (hm : P.follows .mixedOrders = true) (he : early ops = true) (hs0 : ops.size = N + 2)
    (hA : ((List.range N).all fun j => (ancs ops 6 N).contains j) = true) (hB : (waits ops (N + 1)).contains N = true) (hH : headB ops N = true)
    (hds : vals.map (fun p => some p.1) = (List.range N).map (dstOf ops)) (hv : AllVals P (updAll a vals) w.drew (ops.toList.take N))
    (tail : wpOpIn F n P ops Q N (fun a1 w1 => wpOpIn F n P ops Q (N + 1) (fun a2 w2 => Q .normal a2 w2) a1 w1) (updAll a vals) w.drew) :
    (Code.region id ops true).wpIn F n P Q a w :=
  regionIn_final N (updAll a vals) hm he hs0 hA hB hH (updAll_defers _ _) (updAll_size _ _) (fun t ht => updAll_same _ _ _ fun p hp e => by
    have h1 : some p.1 ∈ vals.map (fun p => some p.1) := List.mem_map.2 ⟨p, hp, rfl⟩
    rw [hds] at h1
    obtain ⟨j, hj, hjd⟩ := List.mem_map.1 h1
    exact ht j (List.mem_range.1 hj) (by rw [hjd, e])) hv tail
theorem regionIn_vals {id : Nat} {a : Act} {w : World} (N : Nat) (vals : List (Nat × Value)) (_ : F.round = none) (hm : P.follows .mixedOrders = true) (he : early ops = true) (hs0 : ops.size = N + 2)
    (hA : ((List.range N).all fun j => (ancs ops 6 N).contains j) = true) (hB : (waits ops (N + 1)).contains N = true) (hH : headB ops N = true)
    (hds : vals.map (fun p => some p.1) = (List.range N).map (dstOf ops)) (hv : AllVals P (updAll a vals) w.drew (ops.toList.take N))
    (tail : wpOpIn F n P ops Q N (fun a1 w1 => wpOpIn F n P ops Q (N + 1) (fun a2 w2 => Q .normal a2 w2) a1 w1) (updAll a vals) w.drew) :
    (Code.region id ops true).wpIn F n P Q a w := regionIn_vals0 N vals hm he hs0 hA hB hH hds hv tail
end

end Go.Proofs.Ytladkknbkgomfaa

/-
  A region that draws its order: operations whose values are known, at most two whose values are not (a slice that is built, an append), and one at the end. Each is carried out in the frame that all of them leave.
-/
set_option linter.unusedSimpArgs false
set_option linter.unusedVariables false
namespace Go.Proofs.Ytladkknbkgomfaa
open Go.RowKit

section
variable {P : Program} {ops : Array Oper} {Q : Exit → Act → World → Prop}

theorem put_inj {y : Act} {d : Nat} {v v' : Value} (hd : d < y.tmps.size) (h : y.put (some d) v = y.put (some d) v') : v = v' := by
  have := congrArg (fun a : Act => a.tmps[d]?) h
  simpa [Act.put, Array.getElem?_setIfInBounds, hd] using this
theorem upon_congr {o : Oper} {x y : Act} {d : Nat} {C : Value → World → Prop} {r : Result Next} (hd : o.dst = some d) (hy : d < y.tmps.size)
    (h : o.upon P y (fun a' w' => ∃ v, a' = y.put (some d) v ∧ C v w') (fun _ _ _ => False) r) : o.upon P x (fun a' w' => ∃ v, a' = x.put (some d) v ∧ C v w') Q r := by
  cases r with
  | ok n w' =>
    cases n with
    | value v =>
      simp only [Oper.upon, hd] at h ⊢
      obtain ⟨v', e, hC⟩ := h
      rw [← put_inj hy e] at hC
      exact ⟨v, rfl, hC⟩
    | skip =>
      simp only [Oper.upon, hd] at h ⊢
      obtain ⟨v', e, hC⟩ := h
      rw [← put_inj hy e] at hC
      exact ⟨_, rfl, hC⟩
    | «defer» df =>
      simp only [Oper.upon, hd] at h
      obtain ⟨v', e, hC⟩ := h
      have := congrArg Act.defers e
      simp [Act.put] at this
    | enter f args =>
      simp only [Oper.upon, hd] at h ⊢
      refine h.mono fun e w'' he => ?_
      cases e with
      | returned v =>
        obtain ⟨v', e, hC⟩ := he
        rw [← put_inj hy e] at hC
        exact ⟨_, rfl, hC⟩
      | panicked c => exact absurd he id
      | outgrown => obtain ⟨_, _, hf⟩ := he; exact absurd hf id
    | row rw_ args =>
      simp only [Oper.upon, hd] at h ⊢
      refine h.mono fun v w'' he => ?_
      obtain ⟨v', e, hC⟩ := he
      rw [← put_inj hy e] at hC
      exact ⟨_, rfl, hC⟩
    | _ => exact absurd h id
  | halt hh w' =>
    cases hh <;> exact absurd h id

def chainB (ops : Array Oper) (N e1 e2 u1 u2 : Nat) : Bool := (List.range N).all fun i => match ops[i]? with
  | none => false
  | some o => o.guard.isNone && plainOp o.op && o.dst.isSome && (o.op.operands.all fun x => match x with
      | .tmp t => decide (t ≠ u2) && (decide (t = u1) || (List.range N).all fun j => decide (dstOf ops j ≠ some t) || (waits ops i).contains j)
      | _ => true) && ((List.range N).all fun j => decide (j = i) || decide (dstOf ops j ≠ dstOf ops i)) &&
      (if i = e1 then decide (dstOf ops i = some u1) else if i = e2 then decide (dstOf ops i = some u2) else decide (dstOf ops i ≠ some u1) && decide (dstOf ops i ≠ some u2))
structure ChainAt (ops : Array Oper) (N e1 e2 u1 u2 i : Nat) (o : Oper) : Prop where
  guard : o.guard = none
  sel : ∀ cs b, o.op ≠ .select cs b
  dst : ∃ d, o.dst = some d
  looks2 : ∀ t, Operand.tmp t ∈ o.op.operands → t ≠ u2
  looks : ∀ t, Operand.tmp t ∈ o.op.operands → t = u1 ∨ ∀ j, j < N → dstOf ops j = some t → j ∈ waits ops i
  one : ∀ j, j < N → j ≠ i → dstOf ops j ≠ dstOf ops i
  at1 : i = e1 → dstOf ops i = some u1
  at2 : i ≠ e1 → i = e2 → dstOf ops i = some u2
  at0 : i ≠ e1 → i ≠ e2 → dstOf ops i ≠ some u1 ∧ dstOf ops i ≠ some u2
theorem chain_at {N e1 e2 u1 u2 i : Nat} {o : Oper} (h : chainB ops N e1 e2 u1 u2 = true) (hi : i < N) (ho : ops[i]? = some o) : ChainAt ops N e1 e2 u1 u2 i o := by
  have h1 := List.all_eq_true.1 h i (List.mem_range.2 hi)
  rw [ho] at h1
  simp only [Bool.and_eq_true] at h1
  obtain ⟨⟨⟨⟨⟨h1, h2⟩, h3⟩, h4⟩, h5⟩, h6⟩ := h1
  have hk : ∀ t, Operand.tmp t ∈ o.op.operands → t ≠ u2 ∧ (t = u1 ∨ ∀ j, j < N → dstOf ops j = some t → j ∈ waits ops i) := by
    intro t ht
    rw [Array.all_eq_true'] at h4
    have h7 := h4 (.tmp t) ht
    simp only [Bool.and_eq_true, Bool.or_eq_true, decide_eq_true_eq] at h7
    refine ⟨h7.1, ?_⟩
    rcases h7.2 with h8 | h8
    · exact Or.inl h8
    · refine Or.inr fun j hj hd => ?_
      have h9 := List.all_eq_true.1 h8 j (List.mem_range.2 hj)
      simp only [Bool.or_eq_true, decide_eq_true_eq] at h9
      rcases h9 with h9 | h9
      · exact absurd hd h9
      · simpa using h9
  refine ⟨by simpa using h1, ?_, Option.isSome_iff_exists.1 h3, fun t ht => (hk t ht).1, fun t ht => (hk t ht).2, ?_, ?_, ?_, ?_⟩
  · intro cs b e; rw [e] at h2; simp [plainOp] at h2
  · intro j hj hne
    have h6 := List.all_eq_true.1 h5 j (List.mem_range.2 hj)
    simp only [Bool.or_eq_true, decide_eq_true_eq] at h6
    rcases h6 with h6 | h6
    · exact absurd h6 hne
    · exact h6
  · intro e; rw [if_pos e] at h6; simpa using h6
  · intro e e'; rw [if_neg e, if_pos e'] at h6; simpa using h6
  · intro e e'; rw [if_neg e, if_neg e'] at h6; simpa using h6

/-- What is asked of the operations whose values are known. -/
def AllRd (Ob : Oper → Prop) (e1 e2 : Nat) : Nat → List Oper → Prop
  | _, [] => True
  | i, o :: l => (i ≠ e1 → i ≠ e2 → Ob o) ∧ AllRd Ob e1 e2 (i + 1) l
theorem AllRd.at_ {Ob : Oper → Prop} {e1 e2 : Nat} : ∀ {l : List Oper} {k : Nat}, AllRd Ob e1 e2 k l → ∀ (i : Nat) (o : Oper), l[i]? = some o → k + i ≠ e1 → k + i ≠ e2 → Ob o := by
  intro l
  induction l with
  | nil => intro _ _ i o h; simp at h
  | cons x l ih =>
    intro k h i o ho n1 n2
    cases i with
    | zero => simp at ho; subst ho; exact h.1 n1 n2
    | succ i => exact ih h.2 i o (by simpa using ho) (by omega) (by omega)
def RdOb (P : Program) (St : Bool → Bool → Value → Value → World → Prop) (AF : Act) (u1 : Nat) (o : Oper) : Prop :=
  ∃ d v, o.dst = some d ∧ AF.tmps[d]? = some v ∧ ∀ b1 b2 v1 v2 W, St b1 b2 v1 v2 W → ∀ (K : Act → World → Prop) (Q : Exit → Act → World → Prop), (∀ W', St b1 b2 v1 v2 W' → K ((AF.put (some u1) v1).put (some d) v) W') → o.wp P (AF.put (some u1) v1) W K Q

theorem put_at (a : Act) (d t : Nat) (v : Value) : (a.put (some d) v).tmps[t]? = if d = t then (if d < a.tmps.size then some v else none) else a.tmps[t]? := by
  simp only [Act.put, Array.getElem?_setIfInBounds]
theorem actGet_of {a : Act} {t : Nat} (h : t < a.tmps.size) : a.tmps[t]? = some (a.tmps.getD t undef) := by
  rw [Array.getD_eq_getD_getElem?, Array.getElem?_eq_getElem h]; rfl
theorem actGet_none {a : Act} {t : Nat} (h : ¬ t < a.tmps.size) : a.tmps[t]? = none := by
  rw [Array.getElem?_eq_none_iff]; omega

theorem act_ext {p q : Act} (h1 : p.tmps = q.tmps) (h2 : p.defers = q.defers) : p = q := by
  obtain ⟨a, b⟩ := p
  obtain ⟨c, d⟩ := q
  dsimp only at h1 h2
  rw [h1, h2]

/-- THE RULE. -/
theorem region_chain {id : Nat} {a : Act} {w : World} (N e1 e2 u1 u2 f : Nat) (vals : List (Nat × Value)) (St : Bool → Bool → Value → Value → World → Prop) (hm : P.follows .mixedOrders = true) (he : early ops = true) (hs0 : ops.size = N + 1)
    (hA : ((List.range N).all fun j => (ancs ops f N).contains j) = true) (hE : (decide (N < e2) || ((waits ops e2).contains e1) && decide (e1 < e2)) = true) (hH : chainB ops N e1 e2 u1 u2 = true) (hN1 : e1 ≠ N) (hN2 : e2 ≠ N) (hu : u1 ≠ u2) (hsu1 : e1 < N → u1 < a.tmps.size) (hsu2 : e2 < N → u2 < a.tmps.size)
    (hds : vals.map (fun p => some p.1) = ((List.range N).filter fun i => decide (i ≠ e1) && decide (i ≠ e2)).map (dstOf ops))
    (h0 : ∀ v1 v2, St false false v1 v2 w.drew) (reads : AllRd (RdOb P St (updAll a vals) u1) e1 e2 0 (ops.toList.take N))
    (eff1 : ∀ o, ops[e1]? = some o → ∀ v1 v2 W, St false false v1 v2 W → ∀ (K : Act → World → Prop) (Q : Exit → Act → World → Prop), (∀ v W', St true false v v2 W' → K (((updAll a vals).put (some u1) v1).put (some u1) v) W') → o.wp P ((updAll a vals).put (some u1) v1) W K Q)
    (eff2 : ∀ o, ops[e2]? = some o → ∀ v1 v2 W, St true false v1 v2 W → ∀ (K : Act → World → Prop) (Q : Exit → Act → World → Prop), (∀ v W', St true true v1 v W' → K (((updAll a vals).put (some u1) v1).put (some u2) v) W') → o.wp P ((updAll a vals).put (some u1) v1) W K Q)
    (tail : ∀ v1 v2 W, St (decide (e1 < N)) (decide (e2 < N)) v1 v2 W → wpOp P ops Q N (fun a2 w2 => Q .normal a2 w2) (((updAll a vals).put (some u1) v1).put (some u2) v2) W) :
    (Code.region id ops true).wp P Q a w := by
  have hA' : ∀ j, j < N → j ∈ ancs ops f N := fun j hj => by simpa using List.all_eq_true.1 hA j (List.mem_range.2 hj)
  have hsame : ∀ t, (∀ j, j < N → j ≠ e1 → j ≠ e2 → dstOf ops j ≠ some t) → (updAll a vals).tmps[t]? = a.tmps[t]? := fun t ht => updAll_same _ _ _ fun p hp e => by
    have h1 : some p.1 ∈ vals.map (fun p => some p.1) := List.mem_map.2 ⟨p, hp, rfl⟩
    rw [hds] at h1
    obtain ⟨j, hj, hjd⟩ := List.mem_map.1 h1
    obtain ⟨hj1, hj2⟩ := List.mem_filter.1 hj
    simp only [Bool.and_eq_true, decide_eq_true_eq] at hj2
    exact ht j (List.mem_range.1 hj1) hj2.1 hj2.2 (by rw [hjd, e])
  have hdf : (updAll a vals).defers = a.defers := updAll_defers _ _
  have hsz : (updAll a vals).tmps.size = a.tmps.size := updAll_size _ _
  have hval : ∀ i o, i < N → ops[i]? = some o → i ≠ e1 → i ≠ e2 → RdOb P St (updAll a vals) u1 o := fun i o hi ho n1 n2 => reads.at_ i o (by
    rw [List.getElem?_take_of_lt hi, Array.getElem?_toList]; exact ho) (by omega) (by omega)
  generalize updAll a vals = AF at *
  refine region_inv hm he (fun l x W => l.size = ops.size ∧ Shut ops l ∧ ((l.getD N false = true ∧ Q .normal x W) ∨ (l.getD N true = false ∧ x.defers = a.defers ∧ x.tmps.size = a.tmps.size ∧
    (∀ j, j < N → j ≠ e1 → j ≠ e2 → l.getD j false = true → ∀ t, dstOf ops j = some t → x.tmps[t]? = AF.tmps[t]?) ∧
    (∀ t, (∀ j, j < N → dstOf ops j = some t → l.getD j false = false) → x.tmps[t]? = a.tmps[t]?) ∧ St (l.getD e1 false) (l.getD e2 false) (x.tmps.getD u1 undef) (x.tmps.getD u2 undef) W))) ?_ (fun l a w h => h.1) ?_ ?_
  · refine ⟨by simp, ?_, Or.inr ⟨?_, rfl, rfl, fun j hj _ _ h => ?_, fun _ _ => rfl, ?_⟩⟩
    · intro i hi
      rw [Array.getD_eq_getD_getElem?] at hi
      by_cases h : i < ops.size <;> simp [h] at hi
    · rw [Array.getD_eq_getD_getElem?]; simp [hs0]
    · rw [Array.getD_eq_getD_getElem?] at h
      simp [hs0, show j < N + 1 by omega] at h
    · have e : ∀ k, (Array.replicate ops.size false).getD k false = false := by
        intro k
        rw [Array.getD_eq_getD_getElem?]
        by_cases h : k < ops.size <;> simp [h]
      rw [e, e]
      exact h0 _ _
  · rintro i o ho l x W ⟨hs, hS, hJ⟩ hl hd
    have hio : i < ops.size := (Array.getElem?_eq_some_iff.1 ho).1
    have hil : i < l.size := by rw [hs]; exact hio
    have hw := waits_ok ho hd
    have hS2 := hS.set hil hw
    have hs2 : (l.setIfInBounds i true).size = ops.size := by simpa using hs
    rcases hJ with ⟨j1, _⟩ | ⟨jN, x1, x2, x3, x4, x5⟩
    · rcases Nat.lt_or_ge i N with hi | hi
      · exact absurd (hS.anc f N j1 i (hA' i hi)) (by rw [getD_tf hl]; decide)
      · obtain rfl : i = N := by omega
        exact absurd j1 (by rw [getD_tf hl]; decide)
    rcases Nat.lt_or_ge i N with hi | hi
    · have hC := chain_at hH hi ho
      obtain ⟨d, hd1⟩ := hC.dst
      have hdi : dstOf ops i = some d := by unfold dstOf; rw [ho]; exact hd1
      -- the operands look alike
      have hev : ∀ y ∈ o.op.operands, x.eval y = (AF.put (some u1) (x.tmps.getD u1 undef)).eval y := by
        intro y hy
        refine eval_same fun t ht => ?_
        subst ht
        have n2 := hC.looks2 t hy
        rw [put_at]
        by_cases c1 : u1 = t
        · rw [if_pos c1]
          subst c1
          by_cases hlt : u1 < x.tmps.size
          · rw [if_pos (by rw [hsz, ← x2]; exact hlt), actGet_of hlt]
          · rw [if_neg (by rw [hsz, ← x2]; exact hlt), actGet_none hlt]
        · rw [if_neg c1]
          rcases hC.looks t hy with c2 | c2
          · exact absurd c2.symm c1
          by_cases hc : ∃ j, j < N ∧ dstOf ops j = some t
          · obtain ⟨j, hj, hjt⟩ := hc
            have hoj : ops[j]? = some ops[j] := Array.getElem?_eq_getElem (by omega)
            have hCj := chain_at hH hj hoj
            have m1 : j ≠ e1 := fun e => by have := hCj.at1 e; rw [hjt] at this; exact c1 (Option.some.inj this).symm
            have m2 : j ≠ e2 := fun e => by have := hCj.at2 m1 e; rw [hjt] at this; exact n2 (Option.some.inj this)
            exact x3 j hj m1 m2 (hw j (c2 j hj hjt)) t hjt
          · have hno : ∀ j, j < N → dstOf ops j ≠ some t := fun j hj e => hc ⟨j, hj, e⟩
            rw [x4 t (fun j hj e => absurd e (hno j hj)), hsame t (fun j hj _ _ => hno j hj)]
      have hex := execOp_congr o hC.sel hev
      by_cases hdlt : d < a.tmps.size
      · have hlt : d < x.tmps.size := by rw [x2]; exact hdlt
        have hAFlt : d < (AF.put (some u1) (x.tmps.getD u1 undef)).tmps.size := by simpa [Act.put, hsz] using hdlt
        -- the frame and the flags behind it
        have hput : ∀ (C : Value → World → Prop), (∀ (K : Act → World → Prop) (Q : Exit → Act → World → Prop), (∀ v W', C v W' → K ((AF.put (some u1) (x.tmps.getD u1 undef)).put (some d) v) W') → o.wp P (AF.put (some u1) (x.tmps.getD u1 undef)) W K Q) → wpOp P ops Q i (fun a' w' => ∃ v, a' = x.put (some d) v ∧ C v w') x W := by
          intro C hC2
          unfold wpOp
          rw [ho]
          simp only [Region.wanted, hC.guard, if_true]
          refine Or.inl ?_
          have h1 := hC2 (fun a' w' => ∃ v, a' = (AF.put (some u1) (x.tmps.getD u1 undef)).put (some d) v ∧ C v w') (fun _ _ _ => False) (fun v W' h => ⟨v, rfl, h⟩)
          unfold Oper.wp at h1 ⊢
          rw [hex]
          exact upon_congr hd1 hAFlt h1
        have hfr : ∀ v W', (i ≠ e1 → i ≠ e2 → AF.tmps[d]? = some v) → St ((l.setIfInBounds i true).getD e1 false) ((l.setIfInBounds i true).getD e2 false) ((x.put (some d) v).tmps.getD u1 undef) ((x.put (some d) v).tmps.getD u2 undef) W' →
            ((l.setIfInBounds i true).size = ops.size ∧ Shut ops (l.setIfInBounds i true) ∧ (((l.setIfInBounds i true).getD N false = true ∧ Q .normal (x.put (some d) v) W') ∨ ((l.setIfInBounds i true).getD N true = false ∧ (x.put (some d) v).defers = a.defers ∧ (x.put (some d) v).tmps.size = a.tmps.size ∧
    (∀ j, j < N → j ≠ e1 → j ≠ e2 → (l.setIfInBounds i true).getD j false = true → ∀ t, dstOf ops j = some t → (x.put (some d) v).tmps[t]? = AF.tmps[t]?) ∧
    (∀ t, (∀ j, j < N → dstOf ops j = some t → (l.setIfInBounds i true).getD j false = false) → (x.put (some d) v).tmps[t]? = a.tmps[t]?) ∧ St ((l.setIfInBounds i true).getD e1 false) ((l.setIfInBounds i true).getD e2 false) ((x.put (some d) v).tmps.getD u1 undef) ((x.put (some d) v).tmps.getD u2 undef) W'))) := by
          intro v W' hv hSt
          refine ⟨hs2, hS2, Or.inr ⟨?_, x1, by simpa [Act.put] using x2, ?_, ?_, hSt⟩⟩
          · rw [getD_set1 hil, if_neg (by omega)]; exact jN
          · intro j hj m1 m2 hjl t hjt
            rw [put_at]
            by_cases e : d = t
            · subst e
              rw [if_pos rfl, if_pos hlt]
              have hji : j = i := Classical.byContradiction fun c => hC.one j hj c (by rw [hjt, hdi])
              subst hji
              exact (hv m1 m2).symm
            · rw [if_neg e]
              have hji : j ≠ i := fun c => by subst c; rw [hdi] at hjt; exact e (Option.some.inj hjt)
              rw [getD_set1 hil, if_neg (fun c => hji c.symm)] at hjl
              exact x3 j hj m1 m2 hjl t hjt
          · intro t ht
            rw [put_at]
            have hdt : d ≠ t := fun c => by
              subst c
              have := ht i hi hdi
              rw [getD_set1 hil, if_pos rfl] at this
              cases this
            rw [if_neg hdt]
            refine x4 t fun j hj hjt => ?_
            have := ht j hj hjt
            rw [getD_set1 hil] at this
            split at this
            · cases this
            · exact this
        have hgd : ∀ (v : Value) (t : Nat), (x.put (some d) v).tmps.getD t undef = if d = t then v else x.tmps.getD t undef := by
          intro v t
          rw [Array.getD_eq_getD_getElem?, put_at]
          by_cases e : d = t
          · rw [if_pos e, if_pos e, if_pos hlt]; rfl
          · rw [if_neg e, if_neg e, Array.getD_eq_getD_getElem?]
        by_cases c1 : i = e1
        · subst c1
          have hd2 := hC.at1 rfl
          rw [hdi] at hd2
          obtain rfl : d = u1 := Option.some.inj hd2
          have hb1 : l.getD i false = false := getD_tf hl
          have hb2 : l.getD e2 false = false := by
            cases hb : l.getD e2 false with
            | false => rfl
            | true =>
              exfalso
              simp only [Bool.or_eq_true, Bool.and_eq_true, decide_eq_true_eq] at hE
              rcases hE with hE | hE
              · rw [Array.getD_eq_getD_getElem?, Array.getElem?_eq_none_iff.2 (by omega)] at hb
                cases hb
              · have := hS e2 hb i (by simpa using hE.1)
                rw [hb1] at this; cases this
          rw [hb1, hb2] at x5
          refine wpOp_mono ?_ (hput (fun v W' => St true false v (x.tmps.getD u2 undef) W') (fun K Q hK => eff1 o ho _ _ W x5 K Q hK))
          rintro a' w' ⟨v, rfl, hv⟩
          refine hfr v w' (fun c => absurd rfl c) ?_
          rw [getD_set1 hil, if_pos rfl, getD_set1 hil, hgd, hgd, if_pos rfl, if_neg hu]
          have : ¬ i = e2 := fun e => by
            simp only [Bool.or_eq_true, Bool.and_eq_true, decide_eq_true_eq] at hE
            omega
          rw [if_neg this, hb2]
          exact hv
        · by_cases c2 : i = e2
          · subst c2
            have hd2 := hC.at2 c1 rfl
            rw [hdi] at hd2
            obtain rfl : d = u2 := Option.some.inj hd2
            have hb2 : l.getD i false = false := getD_tf hl
            have hb1 : l.getD e1 false = true := by
              simp only [Bool.or_eq_true, Bool.and_eq_true, decide_eq_true_eq] at hE
              rcases hE with hE | hE
              · omega
              · exact hw e1 (by simpa using hE.1)
            rw [hb1, hb2] at x5
            refine wpOp_mono ?_ (hput (fun v W' => St true true (x.tmps.getD u1 undef) v W') (fun K Q hK => eff2 o ho _ _ W x5 K Q hK))
            rintro a' w' ⟨v, rfl, hv⟩
            refine hfr v w' (fun _ c => absurd rfl c) ?_
            rw [getD_set1 hil, getD_set1 hil, if_pos rfl, hgd, hgd, if_pos rfl, if_neg (Ne.symm hu), if_neg c1, hb1]
            exact hv
          · obtain ⟨d', v, g1, g2, g3⟩ := hval i o hi ho c1 c2
            rw [hd1] at g1
            obtain rfl : d = d' := Option.some.inj g1
            obtain ⟨k1, k2⟩ := hC.at0 c1 c2
            rw [hdi] at k1 k2
            have k1' : d ≠ u1 := fun e => k1 (by rw [e])
            have k2' : d ≠ u2 := fun e => k2 (by rw [e])
            refine wpOp_mono ?_ (hput (fun v' W' => v' = v ∧ St (l.getD e1 false) (l.getD e2 false) (x.tmps.getD u1 undef) (x.tmps.getD u2 undef) W') (fun K Q hK => g3 _ _ _ _ W x5 K Q (fun W' h => hK v W' ⟨rfl, h⟩)))
            rintro a' w' ⟨v', rfl, rfl, hv⟩
            refine hfr v' w' (fun _ _ => g2) ?_
            rw [getD_set1 hil, getD_set1 hil, hgd, hgd, if_neg k1', if_neg k2', if_neg c1, if_neg c2]
            exact hv
      · -- no such slot: cannot be
        exfalso
        by_cases c1 : i = e1
        · have hd2 := hC.at1 c1
          rw [hdi] at hd2
          have := hsu1 (by omega)
          rw [← Option.some.inj hd2] at this
          exact hdlt this
        · by_cases c2 : i = e2
          · have hd2 := hC.at2 c1 c2
            rw [hdi] at hd2
            have := hsu2 (by omega)
            rw [← Option.some.inj hd2] at this
            exact hdlt this
          · obtain ⟨d', v, g1, g2, g3⟩ := hval i o hi ho c1 c2
            rw [hd1] at g1
            obtain rfl : d = d' := Option.some.inj g1
            have := (Array.getElem?_eq_some_iff.1 g2).1
            rw [hsz] at this
            exact hdlt this
    · obtain rfl : i = N := by omega
      have hall : ∀ j, j < i → l.getD j false = true := by
        intro j hj
        have := hS2.anc f i (by rw [getD_set1 hil, if_pos rfl]) j (hA' j hj)
        rwa [getD_set1 hil, if_neg (by omega)] at this
      have hfl : ∀ e, e ≠ i → l.getD e false = decide (e < i) := by
        intro e hne
        rcases Nat.lt_or_ge e i with h | h
        · rw [hall e h]; simp [h]
        · rw [Array.getD_eq_getD_getElem?, Array.getElem?_eq_none_iff.2 (by omega)]
          simp; omega
      rw [hfl e1 hN1, hfl e2 hN2] at x5
      have hx : x = ((AF.put (some u1) (x.tmps.getD u1 undef)).put (some u2) (x.tmps.getD u2 undef)) := by
        have e1' : x.tmps = ((AF.put (some u1) (x.tmps.getD u1 undef)).put (some u2) (x.tmps.getD u2 undef)).tmps := by
          refine Array.ext_getElem? fun t => ?_
          have hs3 : (AF.put (some u1) (x.tmps.getD u1 undef)).tmps.size = x.tmps.size := by rw [x2, ← hsz]; simp [Act.put]
          rw [put_at, hs3]
          by_cases c2 : u2 = t
          · subst c2
            rw [if_pos rfl]
            by_cases hlt : u2 < x.tmps.size
            · rw [if_pos hlt, actGet_of hlt]
            · rw [if_neg hlt, actGet_none hlt]
          · rw [if_neg c2, put_at, hsz, ← x2]
            by_cases c1 : u1 = t
            · subst c1
              rw [if_pos rfl]
              by_cases hlt : u1 < x.tmps.size
              · rw [if_pos hlt, actGet_of hlt]
              · rw [if_neg hlt, actGet_none hlt]
            · rw [if_neg c1]
              by_cases hc : ∃ j, j < i ∧ dstOf ops j = some t
              · obtain ⟨j, hj, hjt⟩ := hc
                have hoj : ops[j]? = some ops[j] := Array.getElem?_eq_getElem (by omega)
                have hCj := chain_at hH hj hoj
                have m1 : j ≠ e1 := fun e => by have := hCj.at1 e; rw [hjt] at this; exact c1 (Option.some.inj this).symm
                have m2 : j ≠ e2 := fun e => by have := hCj.at2 m1 e; rw [hjt] at this; exact c2 (Option.some.inj this).symm
                exact x3 j hj m1 m2 (hall j hj) t hjt
              · have hno : ∀ j, j < i → dstOf ops j ≠ some t := fun j hj e => hc ⟨j, hj, e⟩
                rw [x4 t (fun j hj e => absurd e (hno j hj)), hsame t (fun j hj _ _ => hno j hj)]
        have e2' : x.defers = ((AF.put (some u1) (x.tmps.getD u1 undef)).put (some u2) (x.tmps.getD u2 undef)).defers := by rw [x1, ← hdf]; rfl
        exact act_ext e1' e2'
      have ht := tail _ _ W x5
      rw [← hx] at ht
      refine wpOp_mono ?_ ht
      intro a' w' h
      exact ⟨hs2, hS2, Or.inl ⟨by rw [getD_set1 hil, if_pos rfl], h⟩⟩
  · rintro l x W ⟨hs, hS, hJ⟩ hall
    rcases hJ with ⟨_, j⟩ | ⟨j, _⟩
    · exact j
    · rw [hall N (by omega)] at j; cases j
end

end Go.Proofs.Ytladkknbkgomfaa

/-
  A region that draws its order: operations whose values are known, any number of others (calls, allocations, appends), and one at the end. Each is carried out in the frame that all of them leave.
-/
set_option linter.unusedSimpArgs false
set_option linter.unusedVariables false
namespace Go.Proofs.Ytladkknbkgomfaa
open Go.RowKit

section
variable {P : Program} {ops : Array Oper} {Q : Exit → Act → World → Prop}

theorem getD_someE {a : Act} {t : Nat} (h : t < a.tmps.size) : a.tmps[t]? = some (a.tmps.getD t undef) := by
  rw [Array.getD_eq_getD_getElem?, Array.getElem?_eq_getElem h]; rfl
theorem getD_noneE {a : Act} {t : Nat} (h : ¬ t < a.tmps.size) : a.tmps[t]? = none := by
  rw [Array.getElem?_eq_none_iff]; omega
def putE (a : Act) : List (Nat × Nat) → List Value → Act
  | e :: E, v :: vs => (putE a E vs).put (some e.2) v
  | _, _ => a
theorem putE_size (a : Act) : ∀ (E : List (Nat × Nat)) (vs : List Value), (putE a E vs).tmps.size = a.tmps.size
  | [], _ => by simp [putE]
  | _ :: _, [] => by simp [putE]
  | e :: E, v :: vs => by
    have := putE_size a E vs
    simpa [putE, Act.put] using this
theorem putE_defers (a : Act) : ∀ (E : List (Nat × Nat)) (vs : List Value), (putE a E vs).defers = a.defers
  | [], _ => by simp [putE]
  | _ :: _, [] => by simp [putE]
  | e :: E, v :: vs => by
    have := putE_defers a E vs
    simpa [putE, Act.put] using this
theorem putE_get (a x : Act) (hs : a.tmps.size = x.tmps.size) : ∀ (E : List (Nat × Nat)) (t : Nat), (putE a E (E.map fun e => x.tmps.getD e.2 undef)).tmps[t]? = if t ∈ E.map (·.2) then x.tmps[t]? else a.tmps[t]?
  | [], t => by simp [putE]
  | e :: E, t => by
    have ih := putE_get a x hs E t
    simp only [List.map_cons, putE]
    rw [put_at, putE_size]
    by_cases c : e.2 = t
    · subst c
      rw [if_pos rfl, if_pos (List.mem_cons_self ..)]
      by_cases hlt : e.2 < x.tmps.size
      · rw [if_pos (by omega), getD_someE hlt]
      · rw [if_neg (by omega), getD_noneE hlt]
    · rw [if_neg c, ih]
      have : (t ∈ e.2 :: E.map (·.2)) ↔ t ∈ E.map (·.2) := by
        rw [List.mem_cons]
        exact ⟨fun h => h.resolve_left (fun h => c h.symm), Or.inr⟩
      by_cases m : t ∈ E.map (·.2)
      · rw [if_pos m, if_pos (this.2 m)]
      · rw [if_neg m, if_neg (fun h => m (this.1 h))]

/-- What is asked of a plan: for each operation whether it is an effect (and which), and the effects that are known to be behind it. -/
def efB (ops : Array Oper) (N f : Nat) (E : List (Nat × Nat)) (plan : List (Option Nat × List Nat)) : Bool :=
  ((List.range N).all fun i => match ops[i]?, plan[i]? with
  | some o, some p => o.guard.isNone && plainOp o.op && o.dst.isSome && (o.op.operands.all fun x => match x with
      | .tmp t => (E.map (·.2)).contains t || (List.range N).all fun j => decide (dstOf ops j ≠ some t) || (waits ops i).contains j
      | _ => true) && ((List.range N).all fun j => decide (j = i) || decide (dstOf ops j ≠ dstOf ops i)) &&
      (p.2.all fun k => match E[k]? with | some e => (waits ops i).contains e.1 || (waits ops i).any fun j => (ancs ops f j).contains e.1 | none => false) &&
      (match p.1 with | none => E.all fun e => decide (e.1 ≠ i) | some k => (match E[k]? with | some e => decide (e.1 = i) | none => false))
  | _, _ => false) &&
  ((List.range E.length).all fun k => match E[k]? with | some e => decide (e.1 < N) && decide (dstOf ops e.1 = some e.2) && decide ((plan[e.1]?).map (·.1) = some (some k)) | none => false)
structure EfAt (ops : Array Oper) (N f : Nat) (E : List (Nat × Nat)) (plan : List (Option Nat × List Nat)) (i : Nat) (o : Oper) (p : Option Nat × List Nat) : Prop where
  plan : plan[i]? = some p
  guard : o.guard = none
  sel : ∀ cs b, o.op ≠ .select cs b
  dst : ∃ d, o.dst = some d
  looks : ∀ t, Operand.tmp t ∈ o.op.operands → t ∈ E.map (·.2) ∨ ∀ j, j < N → dstOf ops j = some t → j ∈ waits ops i
  one : ∀ j, j < N → j ≠ i → dstOf ops j ≠ dstOf ops i
  need : ∀ k ∈ p.2, ∃ e, E[k]? = some e ∧ (e.1 ∈ waits ops i ∨ ∃ j ∈ waits ops i, e.1 ∈ ancs ops f j)
  no : p.1 = none → ∀ e ∈ E, e.1 ≠ i
  yes : ∀ k, p.1 = some k → ∃ e, E[k]? = some e ∧ e.1 = i
theorem ef_at {N f i : Nat} {E : List (Nat × Nat)} {plan : List (Option Nat × List Nat)} {o : Oper} (h : efB ops N f E plan = true) (hi : i < N) (ho : ops[i]? = some o) : ∃ p, EfAt ops N f E plan i o p := by
  unfold efB at h
  rw [Bool.and_eq_true] at h
  have h1 := List.all_eq_true.1 h.1 i (List.mem_range.2 hi)
  rw [ho] at h1
  cases hp : plan[i]? with
  | none => rw [hp] at h1; cases h1
  | some p =>
    rw [hp] at h1
    simp only [Bool.and_eq_true] at h1
    obtain ⟨⟨⟨⟨⟨⟨h1, h2⟩, h3⟩, h4⟩, h5⟩, h6⟩, h7⟩ := h1
    refine ⟨p, hp, by simpa using h1, ?_, Option.isSome_iff_exists.1 h3, ?_, ?_, ?_, ?_, ?_⟩
    · intro cs b e; rw [e] at h2; simp [plainOp] at h2
    · intro t ht
      rw [Array.all_eq_true'] at h4
      have h8 := h4 (.tmp t) ht
      simp only [Bool.or_eq_true] at h8
      rcases h8 with h8 | h8
      · exact Or.inl (by simpa using h8)
      · refine Or.inr fun j hj hd => ?_
        have h9 := List.all_eq_true.1 h8 j (List.mem_range.2 hj)
        simp only [Bool.or_eq_true, decide_eq_true_eq] at h9
        rcases h9 with h9 | h9
        · exact absurd hd h9
        · simpa using h9
    · intro j hj hne
      have h8 := List.all_eq_true.1 h5 j (List.mem_range.2 hj)
      simp only [Bool.or_eq_true, decide_eq_true_eq] at h8
      rcases h8 with h8 | h8
      · exact absurd h8 hne
      · exact h8
    · intro k hk
      have h8 := List.all_eq_true.1 h6 k hk
      cases he : E[k]? with
      | none => rw [he] at h8; cases h8
      | some e =>
        rw [he] at h8
        simp only [Bool.or_eq_true, List.any_eq_true] at h8
        refine ⟨e, rfl, ?_⟩
        rcases h8 with h8 | ⟨j, h8, h9⟩
        · exact Or.inl (by simpa using h8)
        · exact Or.inr ⟨j, h8, by simpa using h9⟩
    · intro hn e he
      rw [hn] at h7
      simpa using List.all_eq_true.1 h7 e he
    · intro k hk
      rw [hk] at h7
      simp only at h7
      cases he : E[k]? with
      | none => rw [he] at h7; cases h7
      | some e => rw [he] at h7; exact ⟨e, rfl, by simpa using h7⟩
theorem ef_eff {N f k : Nat} {E : List (Nat × Nat)} {plan : List (Option Nat × List Nat)} {e : Nat × Nat} (h : efB ops N f E plan = true) (he : E[k]? = some e) : e.1 < N ∧ dstOf ops e.1 = some e.2 ∧ (plan[e.1]?).map (·.1) = some (some k) := by
  unfold efB at h
  rw [Bool.and_eq_true] at h
  have hk : k < E.length := (List.getElem?_eq_some_iff.1 he).1
  have h1 := List.all_eq_true.1 h.2 k (List.mem_range.2 hk)
  rw [he] at h1
  simp only [Bool.and_eq_true, decide_eq_true_eq] at h1
  exact ⟨h1.1.1, h1.1.2, h1.2⟩

/-- What is asked of an operation whose value is known. -/
def RdE (P : Program) (St : List Bool → List Value → World → Prop) (AF : Act) (E : List (Nat × Nat)) (need : List Nat) (o : Oper) : Prop :=
  ∃ d v, o.dst = some d ∧ AF.tmps[d]? = some v ∧ ∀ bs vs W, bs.length = E.length → vs.length = E.length → (∀ k ∈ need, bs.getD k false = true) → St bs vs W →
    ∀ (K : Act → World → Prop) (Q : Exit → Act → World → Prop), (∀ W', St bs vs W' → K ((putE AF E vs).put (some d) v) W') → o.wp P (putE AF E vs) W K Q
/-- What is asked of an effect. -/
def EfE (P : Program) (St : List Bool → List Value → World → Prop) (AF : Act) (E : List (Nat × Nat)) (k : Nat) (need : List Nat) (o : Oper) : Prop :=
  ∃ d, o.dst = some d ∧ ∀ bs vs W, bs.length = E.length → vs.length = E.length → (∀ k ∈ need, bs.getD k false = true) → bs.getD k false = false → St bs vs W →
    ∀ (K : Act → World → Prop) (Q : Exit → Act → World → Prop), (∀ v W', St (bs.set k true) (vs.set k v) W' → K ((putE AF E vs).put (some d) v) W') → o.wp P (putE AF E vs) W K Q
def AllE (R : List Nat → Oper → Prop) (F : Nat → List Nat → Oper → Prop) : List (Option Nat × List Nat) → List Oper → Prop
  | (none, nd) :: ks, o :: l => R nd o ∧ AllE R F ks l
  | (some k, nd) :: ks, o :: l => F k nd o ∧ AllE R F ks l
  | _, _ => True
theorem AllE.at_ {R : List Nat → Oper → Prop} {F : Nat → List Nat → Oper → Prop} : ∀ {ks : List (Option Nat × List Nat)} {l : List Oper}, AllE R F ks l → ∀ (i : Nat) (o : Oper) (p : Option Nat × List Nat), l[i]? = some o → ks[i]? = some p → (match p.1 with | none => R p.2 o | some k => F k p.2 o)
  | [], _, _, i, o, p, _, hp => by simp at hp
  | _ :: _, [], _, i, o, p, ho, _ => by simp at ho
  | (none, nd) :: ks, x :: l, h, 0, o, p, ho, hp => by
    simp only [List.getElem?_cons_zero, Option.some.injEq] at ho hp
    subst ho hp
    exact h.1
  | (some k, nd) :: ks, x :: l, h, 0, o, p, ho, hp => by
    simp only [List.getElem?_cons_zero, Option.some.injEq] at ho hp
    subst ho hp
    exact h.1
  | (none, nd) :: ks, x :: l, h, i + 1, o, p, ho, hp => AllE.at_ (ks := ks) (l := l) h.2 i o p (by simpa using ho) (by simpa using hp)
  | (some k, nd) :: ks, x :: l, h, i + 1, o, p, ho, hp => AllE.at_ (ks := ks) (l := l) h.2 i o p (by simpa using ho) (by simpa using hp)

theorem shut_anc {l : Array Bool} (hS : Shut ops l) {i f : Nat} {e : Nat} (hw : ∀ j ∈ waits ops i, l.getD j false = true) (h : e ∈ waits ops i ∨ ∃ j ∈ waits ops i, e ∈ ancs ops f j) : l.getD e false = true := by
  rcases h with h | ⟨j, hj, h⟩
  · exact hw e h
  · exact hS.anc f j (hw j hj) e h

/-- THE RULE. -/
theorem region_effs {id : Nat} {a : Act} {w : World} (N f : Nat) (E : List (Nat × Nat)) (plan : List (Option Nat × List Nat)) (vals : List (Nat × Value)) (St : List Bool → List Value → World → Prop) (hm : P.follows .mixedOrders = true) (he : early ops = true) (hs0 : ops.size = N + 1)
    (hA : ((List.range N).all fun j => (ancs ops f N).contains j) = true) (hH : efB ops N f E plan = true) (hsu : ∀ e ∈ E, e.2 < a.tmps.size)
    (hds : vals.map (fun p => some p.1) = ((List.range N).filter fun i => E.all fun e => decide (e.1 ≠ i)).map (dstOf ops))
    (h0 : ∀ vs, vs.length = E.length → St (E.map fun _ => false) vs w.drew) (each : AllE (RdE P St (updAll a vals) E) (EfE P St (updAll a vals) E) plan (ops.toList.take N))
    (tail : ∀ vs W, vs.length = E.length → St (E.map fun _ => true) vs W → wpOp P ops Q N (fun a2 w2 => Q .normal a2 w2) (putE (updAll a vals) E vs) W) :
    (Code.region id ops true).wp P Q a w := by
  have hA' : ∀ j, j < N → j ∈ ancs ops f N := fun j hj => by simpa using List.all_eq_true.1 hA j (List.mem_range.2 hj)
  have hidx : ∀ j, (E.all fun e => decide (e.1 ≠ j)) = true ↔ ∀ e ∈ E, e.1 ≠ j := fun j => by simp
  have hsame : ∀ t, (∀ j, j < N → (∀ e ∈ E, e.1 ≠ j) → dstOf ops j ≠ some t) → (updAll a vals).tmps[t]? = a.tmps[t]? := fun t ht => updAll_same _ _ _ fun p hp e => by
    have h1 : some p.1 ∈ vals.map (fun p => some p.1) := List.mem_map.2 ⟨p, hp, rfl⟩
    rw [hds] at h1
    obtain ⟨j, hj, hjd⟩ := List.mem_map.1 h1
    obtain ⟨hj1, hj2⟩ := List.mem_filter.1 hj
    exact ht j (List.mem_range.1 hj1) ((hidx j).1 hj2) (by rw [hjd, e])
  have hdf : (updAll a vals).defers = a.defers := updAll_defers _ _
  have hsz : (updAll a vals).tmps.size = a.tmps.size := updAll_size _ _
  have hob : ∀ i o p, i < N → ops[i]? = some o → plan[i]? = some p → (match p.1 with | none => RdE P St (updAll a vals) E p.2 o | some k => EfE P St (updAll a vals) E k p.2 o) := fun i o p hi ho hp => each.at_ i o p (by
    rw [List.getElem?_take_of_lt hi, Array.getElem?_toList]; exact ho) hp
  clear each
  generalize updAll a vals = AF at *
  refine region_inv hm he (fun l x W => l.size = ops.size ∧ Shut ops l ∧ ((l.getD N false = true ∧ Q .normal x W) ∨ (l.getD N true = false ∧ x.defers = a.defers ∧ x.tmps.size = a.tmps.size ∧
    (∀ j, j < N → (∀ e ∈ E, e.1 ≠ j) → l.getD j false = true → ∀ t, dstOf ops j = some t → x.tmps[t]? = AF.tmps[t]?) ∧
    (∀ t, (∀ j, j < N → dstOf ops j = some t → l.getD j false = false) → x.tmps[t]? = a.tmps[t]?) ∧ St (E.map fun e => l.getD e.1 false) (E.map fun e => x.tmps.getD e.2 undef) W))) ?_ (fun l a w h => h.1) ?_ ?_
  · refine ⟨by simp, ?_, Or.inr ⟨?_, rfl, rfl, fun j hj _ h => ?_, fun _ _ => rfl, ?_⟩⟩
    · intro i hi
      rw [Array.getD_eq_getD_getElem?] at hi
      by_cases h : i < ops.size <;> simp [h] at hi
    · rw [Array.getD_eq_getD_getElem?]; simp [hs0]
    · rw [Array.getD_eq_getD_getElem?] at h
      simp [hs0, show j < N + 1 by omega] at h
    · have e : ∀ k, (Array.replicate ops.size false).getD k false = false := by
        intro k
        rw [Array.getD_eq_getD_getElem?]
        by_cases h : k < ops.size <;> simp [h]
      simp only [e]
      exact h0 _ (by simp)
  · rintro i o ho l x W ⟨hs, hS, hJ⟩ hl hd
    have hio : i < ops.size := (Array.getElem?_eq_some_iff.1 ho).1
    have hil : i < l.size := by rw [hs]; exact hio
    have hw := waits_ok ho hd
    have hS2 := hS.set hil hw
    have hs2 : (l.setIfInBounds i true).size = ops.size := by simpa using hs
    rcases hJ with ⟨j1, _⟩ | ⟨jN, x1, x2, x3, x4, x5⟩
    · rcases Nat.lt_or_ge i N with hi | hi
      · exact absurd (hS.anc f N j1 i (hA' i hi)) (by rw [getD_tf hl]; decide)
      · obtain rfl : i = N := by omega
        exact absurd j1 (by rw [getD_tf hl]; decide)
    have hFx := putE_get AF x (by rw [hsz, x2]) E
    rcases Nat.lt_or_ge i N with hi | hi
    · obtain ⟨p, hC⟩ := ef_at hH hi ho
      obtain ⟨d, hd1⟩ := hC.dst
      have hdi : dstOf ops i = some d := by unfold dstOf; rw [ho]; exact hd1
      have hev : ∀ y ∈ o.op.operands, x.eval y = (putE AF E (E.map fun e => x.tmps.getD e.2 undef)).eval y := by
        intro y hy
        refine eval_same fun t ht => ?_
        subst ht
        rw [hFx]
        by_cases c1 : t ∈ E.map (·.2)
        · rw [if_pos c1]
        · rw [if_neg c1]
          rcases hC.looks t hy with c2 | c2
          · exact absurd c2 c1
          by_cases hc : ∃ j, j < N ∧ dstOf ops j = some t
          · obtain ⟨j, hj, hjt⟩ := hc
            refine x3 j hj (fun e heE hej => c1 ?_) (hw j (c2 j hj hjt)) t hjt
            obtain ⟨k, hk⟩ := List.getElem?_of_mem heE
            have q := (ef_eff hH hk).2.1
            rw [hej, hjt] at q
            exact List.mem_map.2 ⟨e, heE, (Option.some.inj q).symm⟩
          · have hno : ∀ j, j < N → dstOf ops j ≠ some t := fun j hj e => hc ⟨j, hj, e⟩
            rw [x4 t (fun j hj e => absurd e (hno j hj)), hsame t (fun j hj _ => hno j hj)]
      have hex := execOp_congr o hC.sel hev
      have hneed : ∀ k ∈ p.2, (E.map fun e => l.getD e.1 false).getD k false = true := by
        intro k hk
        obtain ⟨e, he1, he2⟩ := hC.need k hk
        rw [List.getD_eq_getElem?_getD, List.getElem?_map, he1]
        exact shut_anc hS hw he2
      have hput : d < a.tmps.size → ∀ (C : Value → World → Prop), (∀ (K : Act → World → Prop) (Q : Exit → Act → World → Prop), (∀ v W', C v W' → K ((putE AF E (E.map fun e => x.tmps.getD e.2 undef)).put (some d) v) W') → o.wp P (putE AF E (E.map fun e => x.tmps.getD e.2 undef)) W K Q) → wpOp P ops Q i (fun a' w' => ∃ v, a' = x.put (some d) v ∧ C v w') x W := by
        intro hdlt C hC2
        unfold wpOp
        rw [ho]
        simp only [Region.wanted, hC.guard, if_true]
        refine Or.inl ?_
        have h1 := hC2 (fun a' w' => ∃ v, a' = (putE AF E (E.map fun e => x.tmps.getD e.2 undef)).put (some d) v ∧ C v w') (fun _ _ _ => False) (fun v W' h => ⟨v, rfl, h⟩)
        unfold Oper.wp at h1 ⊢
        rw [hex]
        exact upon_congr hd1 (by rw [putE_size, hsz]; exact hdlt) h1
      have hgd : d < a.tmps.size → ∀ (v : Value) (t : Nat), (x.put (some d) v).tmps.getD t undef = if d = t then v else x.tmps.getD t undef := by
        intro hdlt v t
        rw [Array.getD_eq_getD_getElem?, put_at]
        by_cases e : d = t
        · rw [if_pos e, if_pos e, if_pos (by rw [x2]; exact hdlt)]; rfl
        · rw [if_neg e, if_neg e, Array.getD_eq_getD_getElem?]
      have hfr : d < a.tmps.size → ∀ v W', (p.1 = none → AF.tmps[d]? = some v) → St (E.map fun e => (l.setIfInBounds i true).getD e.1 false) (E.map fun e => (x.put (some d) v).tmps.getD e.2 undef) W' →
          ((l.setIfInBounds i true).size = ops.size ∧ Shut ops (l.setIfInBounds i true) ∧ (((l.setIfInBounds i true).getD N false = true ∧ Q .normal (x.put (some d) v) W') ∨ ((l.setIfInBounds i true).getD N true = false ∧ (x.put (some d) v).defers = a.defers ∧ (x.put (some d) v).tmps.size = a.tmps.size ∧
    (∀ j, j < N → (∀ e ∈ E, e.1 ≠ j) → (l.setIfInBounds i true).getD j false = true → ∀ t, dstOf ops j = some t → (x.put (some d) v).tmps[t]? = AF.tmps[t]?) ∧
    (∀ t, (∀ j, j < N → dstOf ops j = some t → (l.setIfInBounds i true).getD j false = false) → (x.put (some d) v).tmps[t]? = a.tmps[t]?) ∧ St (E.map fun e => (l.setIfInBounds i true).getD e.1 false) (E.map fun e => (x.put (some d) v).tmps.getD e.2 undef) W'))) := by
        intro hdlt v W' hv hSt
        have hlt : d < x.tmps.size := by rw [x2]; exact hdlt
        refine ⟨hs2, hS2, Or.inr ⟨?_, x1, by simpa [Act.put] using x2, ?_, ?_, hSt⟩⟩
        · rw [getD_set1 hil, if_neg (by omega)]; exact jN
        · intro j hj m1 hjl t hjt
          rw [put_at]
          by_cases e : d = t
          · subst e
            rw [if_pos rfl, if_pos hlt]
            have hji : j = i := Classical.byContradiction fun c => hC.one j hj c (by rw [hjt, hdi])
            subst hji
            refine (hv ?_).symm
            cases hp : p.1 with
            | none => rfl
            | some k => obtain ⟨e, he1, he2⟩ := hC.yes k hp; exact absurd he2 (m1 e (List.mem_of_getElem? he1))
          · rw [if_neg e]
            have hji : j ≠ i := fun c => by subst c; rw [hdi] at hjt; exact e (Option.some.inj hjt)
            rw [getD_set1 hil, if_neg (fun c => hji c.symm)] at hjl
            exact x3 j hj m1 hjl t hjt
        · intro t ht
          rw [put_at]
          have hdt : d ≠ t := fun c => by
            subst c
            have := ht i hi hdi
            rw [getD_set1 hil, if_pos rfl] at this
            cases this
          rw [if_neg hdt]
          refine x4 t fun j hj hjt => ?_
          have := ht j hj hjt
          rw [getD_set1 hil] at this
          split at this
          · cases this
          · exact this
      have hO := hob i o p hi ho hC.plan
      obtain ⟨pk, nd⟩ := p
      cases pk with
      | none =>
        obtain ⟨d', v, g1, g2, g3⟩ := hO
        rw [hd1] at g1
        obtain rfl : d = d' := Option.some.inj g1
        have hdlt : d < a.tmps.size := by
          have := (Array.getElem?_eq_some_iff.1 g2).1
          rw [hsz] at this
          exact this
        have hE := hC.no rfl
        refine wpOp_mono ?_ (hput hdlt (fun v' W' => v' = v ∧ St (E.map fun e => l.getD e.1 false) (E.map fun e => x.tmps.getD e.2 undef) W') (fun K Q hK => g3 _ _ W (by simp) (by simp) hneed x5 K Q (fun W' h => hK v W' ⟨rfl, h⟩)))
        rintro a' w' ⟨v', rfl, rfl, hv⟩
        refine hfr hdlt v' w' (fun _ => g2) ?_
        have q1 : (E.map fun e => (l.setIfInBounds i true).getD e.1 false) = E.map fun e => l.getD e.1 false := List.map_congr_left fun e he => by
          rw [getD_set1 hil, if_neg (fun c => hE e he c.symm)]
        have q2 : (E.map fun e => (x.put (some d) v').tmps.getD e.2 undef) = E.map fun e => x.tmps.getD e.2 undef := List.map_congr_left fun e he => by
          obtain ⟨k, hk⟩ := List.getElem?_of_mem he
          have q := ef_eff hH hk
          rw [hgd hdlt, if_neg (fun c => hC.one e.1 q.1 (hE e he) (by rw [q.2.1, hdi, c]))]
        rw [q1, q2]
        exact hv
      | some k =>
        obtain ⟨d', g1, g3⟩ := hO
        rw [hd1] at g1
        obtain rfl : d = d' := Option.some.inj g1
        obtain ⟨ek, hk, hek⟩ := hC.yes k rfl
        have qk := ef_eff hH hk
        have hde : d = ek.2 := by
          have := qk.2.1
          rw [hek, hdi] at this
          exact Option.some.inj this
        have hdlt : d < a.tmps.size := by rw [hde]; exact hsu ek (List.mem_of_getElem? hk)
        have hbk : (E.map fun e => l.getD e.1 false).getD k false = false := by
          rw [List.getD_eq_getElem?_getD, List.getElem?_map, hk]
          show l.getD ek.1 false = false
          rw [hek]
          exact getD_tf hl
        refine wpOp_mono ?_ (hput hdlt (fun v' W' => St ((E.map fun e => l.getD e.1 false).set k true) ((E.map fun e => x.tmps.getD e.2 undef).set k v') W') (fun K Q hK => g3 _ _ W (by simp) (by simp) hneed hbk x5 K Q hK))
        rintro a' w' ⟨v', rfl, hv⟩
        refine hfr hdlt v' w' (fun c => by cases c) ?_
        have hkl : k < E.length := (List.getElem?_eq_some_iff.1 hk).1
        have hm : ∀ m e, E[m]? = some e → e.1 = i → m = k := by
          intro m e hme h
          have q := (ef_eff hH hme).2.2
          have q' := qk.2.2
          rw [h] at q
          rw [hek, q] at q'
          exact Option.some.inj (Option.some.inj q')
        have q1 : (E.map fun e => (l.setIfInBounds i true).getD e.1 false) = (E.map fun e => l.getD e.1 false).set k true := by
          refine List.ext_getElem? fun m => ?_
          rw [List.getElem?_set, List.getElem?_map, List.getElem?_map]
          cases hE : E[m]? with
          | none =>
            have : E.length ≤ m := List.getElem?_eq_none_iff.1 hE
            rw [if_neg (by omega)]; rfl
          | some e =>
            simp only [Option.map_some]
            rw [getD_set1 hil]
            by_cases c : k = m
            · subst c
              rw [hk] at hE
              obtain rfl := Option.some.inj hE
              rw [if_pos hek.symm, if_pos rfl, if_pos (by simpa using hkl)]
            · rw [if_neg (fun h => c (hm m e hE h.symm).symm), if_neg c]
        have q2 : (E.map fun e => (x.put (some d) v').tmps.getD e.2 undef) = (E.map fun e => x.tmps.getD e.2 undef).set k v' := by
          refine List.ext_getElem? fun m => ?_
          rw [List.getElem?_set, List.getElem?_map, List.getElem?_map]
          cases hE : E[m]? with
          | none =>
            have : E.length ≤ m := List.getElem?_eq_none_iff.1 hE
            rw [if_neg (by omega)]; rfl
          | some e =>
            simp only [Option.map_some]
            rw [hgd hdlt]
            by_cases c : k = m
            · subst c
              rw [hk] at hE
              obtain rfl := Option.some.inj hE
              rw [if_pos hde, if_pos rfl, if_pos (by simpa using hkl)]
            · have hne : e.1 ≠ i := fun h => c (hm m e hE h).symm
              have q := ef_eff hH hE
              rw [if_neg (fun h => hC.one e.1 q.1 hne (by rw [q.2.1, hdi, h])), if_neg c]
        rw [q1, q2]
        exact hv
    · obtain rfl : i = N := by omega
      have hall : ∀ j, j < i → l.getD j false = true := by
        intro j hj
        have := hS2.anc f i (by rw [getD_set1 hil, if_pos rfl]) j (hA' j hj)
        rwa [getD_set1 hil, if_neg (by omega)] at this
      have q1 : (E.map fun e => l.getD e.1 false) = E.map fun _ => true := List.map_congr_left fun e he => by
        obtain ⟨k, hk⟩ := List.getElem?_of_mem he
        exact hall e.1 (ef_eff hH hk).1
      rw [q1] at x5
      have hx : x = putE AF E (E.map fun e => x.tmps.getD e.2 undef) := by
        refine act_ext (Array.ext_getElem? fun t => ?_) (by rw [putE_defers, hdf, x1])
        rw [hFx]
        by_cases c1 : t ∈ E.map (·.2)
        · rw [if_pos c1]
        · rw [if_neg c1]
          by_cases hc : ∃ j, j < i ∧ dstOf ops j = some t
          · obtain ⟨j, hj, hjt⟩ := hc
            refine x3 j hj (fun e heE hej => c1 ?_) (hall j hj) t hjt
            obtain ⟨k, hk⟩ := List.getElem?_of_mem heE
            have q := (ef_eff hH hk).2.1
            rw [hej, hjt] at q
            exact List.mem_map.2 ⟨e, heE, (Option.some.inj q).symm⟩
          · have hno : ∀ j, j < i → dstOf ops j ≠ some t := fun j hj e => hc ⟨j, hj, e⟩
            rw [x4 t (fun j hj e => absurd e (hno j hj)), hsame t (fun j hj _ => hno j hj)]
      have ht := tail _ W (by simp) x5
      rw [← hx] at ht
      refine wpOp_mono ?_ ht
      intro a' w' h
      exact ⟨hs2, hS2, Or.inl ⟨by rw [getD_set1 hil, if_pos rfl], h⟩⟩
  · rintro l x W ⟨hs, hS, hJ⟩ hall
    rcases hJ with ⟨_, j⟩ | ⟨j, _⟩
    · exact j
    · rw [hall N (by omega)] at j; cases j

theorem len_one {α : Type} {n : Nat} {l : List α} (h : l.length = n + 1) : ∃ x m, l = x :: m ∧ m.length = n := by
  cases l with
  | nil => simp at h
  | cons x m => exact ⟨x, m, rfl, by simpa using h⟩
theorem len_nil {α : Type} {l : List α} (h : l.length = 0) : l = [] := List.length_eq_zero_iff.1 h
end

end Go.Proofs.Ytladkknbkgomfaa

/-
  A region that draws its order: operations whose values are known, any number of others (calls, allocations, appends, stores), none of which need be the last one.
-/
set_option linter.unusedSimpArgs false
set_option linter.unusedVariables false
namespace Go.Proofs.Ytladkknbkgomfaa
open Go.RowKit

section
variable {P : Program} {ops : Array Oper} {Q : Exit → Act → World → Prop}

/-- What is asked of a plan: for each operation whether it is an effect (and which), and the effects that are known to be behind it. -/
def egB (ops : Array Oper) (N f z : Nat) (E : List (Nat × Nat)) (plan : List (Option Nat × List Nat)) : Bool :=
  ((List.range N).all fun i => match ops[i]?, plan[i]? with
  | some o, some p => o.guard.isNone && plainOp o.op && (o.op.operands.all fun x => match x with
      | .tmp t => (E.map (·.2)).contains t || (List.range N).all fun j => decide (dstOf ops j ≠ some t) || (waits ops i).contains j
      | _ => true) && ((List.range N).all fun j => decide (j = i) || decide (dstOf ops j = none) || decide (dstOf ops j ≠ dstOf ops i)) &&
      (p.2.all fun k => match E[k]? with | some e => (waits ops i).contains e.1 || (waits ops i).any fun j => (ancs ops f j).contains e.1 | none => false) &&
      (match p.1 with | none => E.all fun e => decide (e.1 ≠ i) | some k => (match E[k]? with | some e => decide (e.1 = i) | none => false))
  | _, _ => false) &&
  ((List.range E.length).all fun k => match E[k]? with | some e => decide (e.1 < N) && (decide (dstOf ops e.1 = some e.2) && decide (e.2 < z) || decide (dstOf ops e.1 = none) && decide (z ≤ e.2)) && decide ((plan[e.1]?).map (·.1) = some (some k)) | none => false)
structure EgAt (ops : Array Oper) (N f : Nat) (E : List (Nat × Nat)) (plan : List (Option Nat × List Nat)) (i : Nat) (o : Oper) (p : Option Nat × List Nat) : Prop where
  plan : plan[i]? = some p
  guard : o.guard = none
  sel : ∀ cs b, o.op ≠ .select cs b
  looks : ∀ t, Operand.tmp t ∈ o.op.operands → t ∈ E.map (·.2) ∨ ∀ j, j < N → dstOf ops j = some t → j ∈ waits ops i
  one : ∀ j, j < N → j ≠ i → dstOf ops j = none ∨ dstOf ops j ≠ dstOf ops i
  need : ∀ k ∈ p.2, ∃ e, E[k]? = some e ∧ (e.1 ∈ waits ops i ∨ ∃ j ∈ waits ops i, e.1 ∈ ancs ops f j)
  no : p.1 = none → ∀ e ∈ E, e.1 ≠ i
  yes : ∀ k, p.1 = some k → ∃ e, E[k]? = some e ∧ e.1 = i
theorem eg_at {N f z i : Nat} {E : List (Nat × Nat)} {plan : List (Option Nat × List Nat)} {o : Oper} (h : egB ops N f z E plan = true) (hi : i < N) (ho : ops[i]? = some o) : ∃ p, EgAt ops N f E plan i o p := by
  unfold egB at h
  rw [Bool.and_eq_true] at h
  have h1 := List.all_eq_true.1 h.1 i (List.mem_range.2 hi)
  rw [ho] at h1
  cases hp : plan[i]? with
  | none => rw [hp] at h1; cases h1
  | some p =>
    rw [hp] at h1
    simp only [Bool.and_eq_true] at h1
    obtain ⟨⟨⟨⟨⟨h1, h2⟩, h4⟩, h5⟩, h6⟩, h7⟩ := h1
    refine ⟨p, hp, by simpa using h1, ?_, ?_, ?_, ?_, ?_, ?_⟩
    · intro cs b e; rw [e] at h2; simp [plainOp] at h2
    · intro t ht
      rw [Array.all_eq_true'] at h4
      have h8 := h4 (.tmp t) ht
      simp only [Bool.or_eq_true] at h8
      rcases h8 with h8 | h8
      · exact Or.inl (by simpa using h8)
      · refine Or.inr fun j hj hd => ?_
        have h9 := List.all_eq_true.1 h8 j (List.mem_range.2 hj)
        simp only [Bool.or_eq_true, decide_eq_true_eq] at h9
        rcases h9 with h9 | h9
        · exact absurd hd h9
        · simpa using h9
    · intro j hj hne
      have h8 := List.all_eq_true.1 h5 j (List.mem_range.2 hj)
      simp only [Bool.or_eq_true, decide_eq_true_eq] at h8
      rcases h8 with (h8 | h8) | h8
      · exact absurd h8 hne
      · exact Or.inl h8
      · exact Or.inr h8
    · intro k hk
      have h8 := List.all_eq_true.1 h6 k hk
      cases he : E[k]? with
      | none => rw [he] at h8; cases h8
      | some e =>
        rw [he] at h8
        simp only [Bool.or_eq_true, List.any_eq_true] at h8
        refine ⟨e, rfl, ?_⟩
        rcases h8 with h8 | ⟨j, h8, h9⟩
        · exact Or.inl (by simpa using h8)
        · exact Or.inr ⟨j, h8, by simpa using h9⟩
    · intro hn e he
      rw [hn] at h7
      simpa using List.all_eq_true.1 h7 e he
    · intro k hk
      rw [hk] at h7
      simp only at h7
      cases he : E[k]? with
      | none => rw [he] at h7; cases h7
      | some e => rw [he] at h7; exact ⟨e, rfl, by simpa using h7⟩
theorem eg_eff {N f z k : Nat} {E : List (Nat × Nat)} {plan : List (Option Nat × List Nat)} {e : Nat × Nat} (h : egB ops N f z E plan = true) (he : E[k]? = some e) : e.1 < N ∧ (dstOf ops e.1 = some e.2 ∧ e.2 < z ∨ dstOf ops e.1 = none ∧ z ≤ e.2) ∧ (plan[e.1]?).map (·.1) = some (some k) := by
  unfold egB at h
  rw [Bool.and_eq_true] at h
  have hk : k < E.length := (List.getElem?_eq_some_iff.1 he).1
  have h1 := List.all_eq_true.1 h.2 k (List.mem_range.2 hk)
  rw [he] at h1
  simp only [Bool.and_eq_true, Bool.or_eq_true, decide_eq_true_eq] at h1
  exact ⟨h1.1.1, h1.1.2, h1.2⟩

/-- What is asked of an effect, with a slot or without one. -/
def EfG (P : Program) (St : List Bool → List Value → World → Prop) (AF : Act) (E : List (Nat × Nat)) (k : Nat) (need : List Nat) (o : Oper) : Prop :=
  (∃ d, o.dst = some d ∧ ∀ bs vs W, bs.length = E.length → vs.length = E.length → (∀ k ∈ need, bs.getD k false = true) → bs.getD k false = false → St bs vs W →
    ∀ (K : Act → World → Prop) (Q : Exit → Act → World → Prop), (∀ v W', St (bs.set k true) (vs.set k v) W' → K ((putE AF E vs).put (some d) v) W') → o.wp P (putE AF E vs) W K Q) ∨
  (o.dst = none ∧ ∀ bs vs W, bs.length = E.length → vs.length = E.length → (∀ k ∈ need, bs.getD k false = true) → bs.getD k false = false → St bs vs W →
    ∀ (K : Act → World → Prop) (Q : Exit → Act → World → Prop), (∀ W', St (bs.set k true) vs W' → K (putE AF E vs) W') → o.wp P (putE AF E vs) W K Q)
theorem upon_congr0 {o : Oper} {x y : Act} {C : World → Prop} {r : Result Next} (hd : o.dst = none)
    (h : o.upon P y (fun a' w' => a' = y ∧ C w') (fun _ _ _ => False) r) : o.upon P x (fun a' w' => a' = x ∧ C w') Q r := by
  cases r with
  | ok n w' =>
    cases n with
    | value v =>
      simp only [Oper.upon, hd] at h ⊢
      exact ⟨rfl, h.2⟩
    | skip =>
      simp only [Oper.upon, hd] at h ⊢
      exact ⟨rfl, h.2⟩
    | «defer» df =>
      simp only [Oper.upon, hd] at h
      have := congrArg Act.defers h.1
      simp [Act.put] at this
    | enter f args =>
      simp only [Oper.upon, hd] at h ⊢
      refine h.mono fun e w'' he => ?_
      cases e with
      | returned v => exact ⟨rfl, he.2⟩
      | panicked c => exact absurd he id
      | outgrown => obtain ⟨_, _, hf⟩ := he; exact absurd hf id
    | row rw_ args =>
      simp only [Oper.upon, hd] at h ⊢
      refine h.mono fun v w'' he => ?_
      exact ⟨rfl, he.2⟩
    | _ => exact absurd h id
  | halt hh w' =>
    cases hh <;> exact absurd h id
theorem shut_ancG {l : Array Bool} (hS : Shut ops l) {i f : Nat} {e : Nat} (hw : ∀ j ∈ waits ops i, l.getD j false = true) (h : e ∈ waits ops i ∨ ∃ j ∈ waits ops i, e ∈ ancs ops f j) : l.getD e false = true := by
  rcases h with h | ⟨j, hj, h⟩
  · exact hw e h
  · exact hS.anc f j (hw j hj) e h

/-- THE RULE. -/
theorem region_all {id : Nat} {a : Act} {w : World} (N f z : Nat) (E : List (Nat × Nat)) (plan : List (Option Nat × List Nat)) (vals : List (Nat × Value)) (St : List Bool → List Value → World → Prop) (hm : P.follows .mixedOrders = true) (he : early ops = true) (hs0 : ops.size = N) (hz : a.tmps.size = z)
    (hH : egB ops N f z E plan = true)
    (hds : vals.map (fun p => some p.1) = ((List.range N).filter fun i => E.all fun e => decide (e.1 ≠ i)).map (dstOf ops))
    (h0 : ∀ vs, vs.length = E.length → St (E.map fun _ => false) vs w.drew) (each : AllE (RdE P St (updAll a vals) E) (EfG P St (updAll a vals) E) plan ops.toList)
    (done : ∀ vs W, vs.length = E.length → St (E.map fun _ => true) vs W → Q .normal (putE (updAll a vals) E vs) W) :
    (Code.region id ops true).wp P Q a w := by
  have hidx : ∀ j, (E.all fun e => decide (e.1 ≠ j)) = true ↔ ∀ e ∈ E, e.1 ≠ j := fun j => by simp
  have hsame : ∀ t, (∀ j, j < N → (∀ e ∈ E, e.1 ≠ j) → dstOf ops j ≠ some t) → (updAll a vals).tmps[t]? = a.tmps[t]? := fun t ht => updAll_same _ _ _ fun p hp e => by
    have h1 : some p.1 ∈ vals.map (fun p => some p.1) := List.mem_map.2 ⟨p, hp, rfl⟩
    rw [hds] at h1
    obtain ⟨j, hj, hjd⟩ := List.mem_map.1 h1
    obtain ⟨hj1, hj2⟩ := List.mem_filter.1 hj
    exact ht j (List.mem_range.1 hj1) ((hidx j).1 hj2) (by rw [hjd, e])
  have hdf : (updAll a vals).defers = a.defers := updAll_defers _ _
  have hsz : (updAll a vals).tmps.size = a.tmps.size := updAll_size _ _
  have hob : ∀ (i : Nat) (o : Oper) (p : Option Nat × List Nat), ops[i]? = some o → plan[i]? = some p → (match p.1 with | none => RdE P St (updAll a vals) E p.2 o | some k => EfG P St (updAll a vals) E k p.2 o) := fun i o p ho hp => each.at_ i o p (by
    rw [Array.getElem?_toList]; exact ho) hp
  clear each
  generalize updAll a vals = AF at *
  refine region_inv hm he (fun l x W => l.size = ops.size ∧ Shut ops l ∧ x.defers = a.defers ∧ x.tmps.size = a.tmps.size ∧
    (∀ j, j < N → (∀ e ∈ E, e.1 ≠ j) → l.getD j false = true → ∀ t, dstOf ops j = some t → x.tmps[t]? = AF.tmps[t]?) ∧
    (∀ t, (∀ j, j < N → dstOf ops j = some t → l.getD j false = false) → x.tmps[t]? = a.tmps[t]?) ∧ St (E.map fun e => l.getD e.1 false) (E.map fun e => x.tmps.getD e.2 undef) W) ?_ (fun l a w h => h.1) ?_ ?_
  · refine ⟨by simp, ?_, rfl, rfl, fun j hj _ h => ?_, fun _ _ => rfl, ?_⟩
    · intro i hi
      rw [Array.getD_eq_getD_getElem?] at hi
      by_cases h : i < ops.size <;> simp [h] at hi
    · rw [Array.getD_eq_getD_getElem?] at h
      simp [hs0, hj] at h
    · have e : ∀ k, (Array.replicate ops.size false).getD k false = false := by
        intro k
        rw [Array.getD_eq_getD_getElem?]
        by_cases h : k < ops.size <;> simp [h]
      simp only [e]
      exact h0 _ (by simp)
  · rintro i o ho l x W ⟨hs, hS, x1, x2, x3, x4, x5⟩ hl hd
    have hio : i < ops.size := (Array.getElem?_eq_some_iff.1 ho).1
    have hil : i < l.size := by rw [hs]; exact hio
    have hi : i < N := by omega
    have hw := waits_ok ho hd
    have hS2 := hS.set hil hw
    have hs2 : (l.setIfInBounds i true).size = ops.size := by simpa using hs
    have hFx := putE_get AF x (by rw [hsz, x2]) E
    obtain ⟨p, hC⟩ := eg_at hH hi ho
    have hev : ∀ y ∈ o.op.operands, x.eval y = (putE AF E (E.map fun e => x.tmps.getD e.2 undef)).eval y := by
      intro y hy
      refine eval_same fun t ht => ?_
      subst ht
      rw [hFx]
      by_cases c1 : t ∈ E.map (·.2)
      · rw [if_pos c1]
      · rw [if_neg c1]
        rcases hC.looks t hy with c2 | c2
        · exact absurd c2 c1
        by_cases hc : ∃ j, j < N ∧ dstOf ops j = some t
        · obtain ⟨j, hj, hjt⟩ := hc
          refine x3 j hj (fun e heE hej => c1 ?_) (hw j (c2 j hj hjt)) t hjt
          obtain ⟨k, hk⟩ := List.getElem?_of_mem heE
          rcases (eg_eff hH hk).2.1 with ⟨q, -⟩ | ⟨q, -⟩
          · rw [hej, hjt] at q
            exact List.mem_map.2 ⟨e, heE, (Option.some.inj q).symm⟩
          · rw [hej, hjt] at q
            cases q
        · have hno : ∀ j, j < N → dstOf ops j ≠ some t := fun j hj e => hc ⟨j, hj, e⟩
          rw [x4 t (fun j hj e => absurd e (hno j hj)), hsame t (fun j hj _ => hno j hj)]
    have hex := execOp_congr o hC.sel hev
    have hneed : ∀ k ∈ p.2, (E.map fun e => l.getD e.1 false).getD k false = true := by
      intro k hk
      obtain ⟨e, he1, he2⟩ := hC.need k hk
      rw [List.getD_eq_getElem?_getD, List.getElem?_map, he1]
      exact shut_ancG hS hw he2
    have hO := hob i o p ho hC.plan
    cases hdo : o.dst with
    | none =>
      have hdi : dstOf ops i = none := by unfold dstOf; rw [ho]; exact hdo
      obtain ⟨pk, nd⟩ := p
      cases pk with
      | none =>
        obtain ⟨d', v, g1, -⟩ := hO
        rw [hdo] at g1
        cases g1
      | some k =>
        rcases hO with ⟨d', g1, -⟩ | ⟨-, g3⟩
        · rw [hdo] at g1
          cases g1
        obtain ⟨ek, hk, hek⟩ := hC.yes k rfl
        have qk := eg_eff hH hk
        have hbk : (E.map fun e => l.getD e.1 false).getD k false = false := by
          rw [List.getD_eq_getElem?_getD, List.getElem?_map, hk]
          show l.getD ek.1 false = false
          rw [hek]
          exact getD_tf hl
        have hkl : k < E.length := (List.getElem?_eq_some_iff.1 hk).1
        have hm : ∀ m e, E[m]? = some e → e.1 = i → m = k := by
          intro m e hme h
          have q := (eg_eff hH hme).2.2
          have q' := qk.2.2
          rw [h] at q
          rw [hek, q] at q'
          exact Option.some.inj (Option.some.inj q')
        have q1 : (E.map fun e => (l.setIfInBounds i true).getD e.1 false) = (E.map fun e => l.getD e.1 false).set k true := by
          refine List.ext_getElem? fun m => ?_
          rw [List.getElem?_set, List.getElem?_map, List.getElem?_map]
          cases hE : E[m]? with
          | none =>
            have : E.length ≤ m := List.getElem?_eq_none_iff.1 hE
            rw [if_neg (by omega)]; rfl
          | some e =>
            simp only [Option.map_some]
            rw [getD_set1 hil]
            by_cases c : k = m
            · subst c
              rw [hk] at hE
              obtain rfl := Option.some.inj hE
              rw [if_pos hek.symm, if_pos rfl, if_pos (by simpa using hkl)]
            · rw [if_neg (fun h => c (hm m e hE h.symm).symm), if_neg c]
        unfold wpOp
        rw [ho]
        simp only [Region.wanted, hC.guard, if_true]
        refine Or.inl ?_
        have h1 := g3 _ _ W (by simp) (by simp) hneed hbk x5 (fun a' w' => a' = putE AF E (E.map fun e => x.tmps.getD e.2 undef) ∧ St ((E.map fun e => l.getD e.1 false).set k true) (E.map fun e => x.tmps.getD e.2 undef) w') (fun _ _ _ => False) (fun W' h => ⟨rfl, h⟩)
        have h2 : o.wp P x W (fun a' w' => a' = x ∧ St ((E.map fun e => l.getD e.1 false).set k true) (E.map fun e => x.tmps.getD e.2 undef) w') Q := by
          unfold Oper.wp at h1 ⊢
          rw [hex]
          exact upon_congr0 hdo h1
        refine Oper.wp_mono ?_ h2
        rintro a' w' ⟨rfl, hv⟩
        refine ⟨hs2, hS2, x1, x2, ?_, ?_, ?_⟩
        · intro j hj m1 hjl t hjt
          have hji : j ≠ i := fun c => by subst c; rw [hdi] at hjt; cases hjt
          rw [getD_set1 hil, if_neg (fun c => hji c.symm)] at hjl
          exact x3 j hj m1 hjl t hjt
        · intro t ht
          refine x4 t fun j hj hjt => ?_
          have := ht j hj hjt
          rw [getD_set1 hil] at this
          split at this
          · cases this
          · exact this
        · rw [q1]
          exact hv
    | some d =>
      have hd1 := hdo
      have hdi : dstOf ops i = some d := by unfold dstOf; rw [ho]; exact hd1
      have hput : d < a.tmps.size → ∀ (C : Value → World → Prop), (∀ (K : Act → World → Prop) (Q : Exit → Act → World → Prop), (∀ v W', C v W' → K ((putE AF E (E.map fun e => x.tmps.getD e.2 undef)).put (some d) v) W') → o.wp P (putE AF E (E.map fun e => x.tmps.getD e.2 undef)) W K Q) → wpOp P ops Q i (fun a' w' => ∃ v, a' = x.put (some d) v ∧ C v w') x W := by
        intro hdlt C hC2
        unfold wpOp
        rw [ho]
        simp only [Region.wanted, hC.guard, if_true]
        refine Or.inl ?_
        have h1 := hC2 (fun a' w' => ∃ v, a' = (putE AF E (E.map fun e => x.tmps.getD e.2 undef)).put (some d) v ∧ C v w') (fun _ _ _ => False) (fun v W' h => ⟨v, rfl, h⟩)
        unfold Oper.wp at h1 ⊢
        rw [hex]
        exact upon_congr hd1 (by rw [putE_size, hsz]; exact hdlt) h1
      have hgd : d < a.tmps.size → ∀ (v : Value) (t : Nat), (x.put (some d) v).tmps.getD t undef = if d = t then v else x.tmps.getD t undef := by
        intro hdlt v t
        rw [Array.getD_eq_getD_getElem?, put_at]
        by_cases e : d = t
        · rw [if_pos e, if_pos e, if_pos (by rw [x2]; exact hdlt)]; rfl
        · rw [if_neg e, if_neg e, Array.getD_eq_getD_getElem?]
      have hother : d < a.tmps.size → ∀ e ∈ E, e.1 ≠ i → d ≠ e.2 := by
        intro hdlt e heE hne c
        obtain ⟨k, hk⟩ := List.getElem?_of_mem heE
        have q := eg_eff hH hk
        rcases q.2.1 with ⟨q1, -⟩ | ⟨-, q2⟩
        · rcases hC.one e.1 q.1 hne with h | h
          · rw [q1] at h; cases h
          · exact h (by rw [q1, hdi, c])
        · exact absurd q2 (by rw [← c, ← hz]; exact Nat.not_le.2 hdlt)
      have hfr : d < a.tmps.size → ∀ v W', (p.1 = none → AF.tmps[d]? = some v) → St (E.map fun e => (l.setIfInBounds i true).getD e.1 false) (E.map fun e => (x.put (some d) v).tmps.getD e.2 undef) W' →
          ((l.setIfInBounds i true).size = ops.size ∧ Shut ops (l.setIfInBounds i true) ∧ (x.put (some d) v).defers = a.defers ∧ (x.put (some d) v).tmps.size = a.tmps.size ∧
    (∀ j, j < N → (∀ e ∈ E, e.1 ≠ j) → (l.setIfInBounds i true).getD j false = true → ∀ t, dstOf ops j = some t → (x.put (some d) v).tmps[t]? = AF.tmps[t]?) ∧
    (∀ t, (∀ j, j < N → dstOf ops j = some t → (l.setIfInBounds i true).getD j false = false) → (x.put (some d) v).tmps[t]? = a.tmps[t]?) ∧ St (E.map fun e => (l.setIfInBounds i true).getD e.1 false) (E.map fun e => (x.put (some d) v).tmps.getD e.2 undef) W') := by
        intro hdlt v W' hv hSt
        have hlt : d < x.tmps.size := by rw [x2]; exact hdlt
        refine ⟨hs2, hS2, x1, by simpa [Act.put] using x2, ?_, ?_, hSt⟩
        · intro j hj m1 hjl t hjt
          rw [put_at]
          by_cases e : d = t
          · subst e
            rw [if_pos rfl, if_pos hlt]
            have hji : j = i := Classical.byContradiction fun c => by
              rcases hC.one j hj c with h | h
              · rw [hjt] at h; cases h
              · exact h (by rw [hjt, hdi])
            subst hji
            refine (hv ?_).symm
            cases hp : p.1 with
            | none => rfl
            | some k => obtain ⟨e, he1, he2⟩ := hC.yes k hp; exact absurd he2 (m1 e (List.mem_of_getElem? he1))
          · rw [if_neg e]
            have hji : j ≠ i := fun c => by subst c; rw [hdi] at hjt; exact e (Option.some.inj hjt)
            rw [getD_set1 hil, if_neg (fun c => hji c.symm)] at hjl
            exact x3 j hj m1 hjl t hjt
        · intro t ht
          rw [put_at]
          have hdt : d ≠ t := fun c => by
            subst c
            have := ht i hi hdi
            rw [getD_set1 hil, if_pos rfl] at this
            cases this
          rw [if_neg hdt]
          refine x4 t fun j hj hjt => ?_
          have := ht j hj hjt
          rw [getD_set1 hil] at this
          split at this
          · cases this
          · exact this
      obtain ⟨pk, nd⟩ := p
      cases pk with
      | none =>
        obtain ⟨d', v, g1, g2, g3⟩ := hO
        rw [hd1] at g1
        obtain rfl : d = d' := Option.some.inj g1
        have hdlt : d < a.tmps.size := by
          have := (Array.getElem?_eq_some_iff.1 g2).1
          rw [hsz] at this
          exact this
        have hE := hC.no rfl
        refine wpOp_mono ?_ (hput hdlt (fun v' W' => v' = v ∧ St (E.map fun e => l.getD e.1 false) (E.map fun e => x.tmps.getD e.2 undef) W') (fun K Q hK => g3 _ _ W (by simp) (by simp) hneed x5 K Q (fun W' h => hK v W' ⟨rfl, h⟩)))
        rintro a' w' ⟨v', rfl, rfl, hv⟩
        refine hfr hdlt v' w' (fun _ => g2) ?_
        have q1 : (E.map fun e => (l.setIfInBounds i true).getD e.1 false) = E.map fun e => l.getD e.1 false := List.map_congr_left fun e he => by
          rw [getD_set1 hil, if_neg (fun c => hE e he c.symm)]
        have q2 : (E.map fun e => (x.put (some d) v').tmps.getD e.2 undef) = E.map fun e => x.tmps.getD e.2 undef := List.map_congr_left fun e he => by
          rw [hgd hdlt, if_neg (hother hdlt e he (hE e he))]
        rw [q1, q2]
        exact hv
      | some k =>
        rcases hO with ⟨d', g1, g3⟩ | ⟨g1, -⟩
        rotate_left
        · rw [hd1] at g1; cases g1
        rw [hd1] at g1
        obtain rfl : d = d' := Option.some.inj g1
        obtain ⟨ek, hk, hek⟩ := hC.yes k rfl
        have qk := eg_eff hH hk
        have hq : d = ek.2 ∧ ek.2 < z := by
          rcases qk.2.1 with ⟨q1, q2⟩ | ⟨q1, -⟩
          · rw [hek, hdi] at q1
            exact ⟨Option.some.inj q1, q2⟩
          · rw [hek, hdi] at q1
            cases q1
        have hde := hq.1
        have hdlt : d < a.tmps.size := by rw [hde, hz]; exact hq.2
        have hbk : (E.map fun e => l.getD e.1 false).getD k false = false := by
          rw [List.getD_eq_getElem?_getD, List.getElem?_map, hk]
          show l.getD ek.1 false = false
          rw [hek]
          exact getD_tf hl
        refine wpOp_mono ?_ (hput hdlt (fun v' W' => St ((E.map fun e => l.getD e.1 false).set k true) ((E.map fun e => x.tmps.getD e.2 undef).set k v') W') (fun K Q hK => g3 _ _ W (by simp) (by simp) hneed hbk x5 K Q hK))
        rintro a' w' ⟨v', rfl, hv⟩
        refine hfr hdlt v' w' (fun c => by cases c) ?_
        have hkl : k < E.length := (List.getElem?_eq_some_iff.1 hk).1
        have hm : ∀ m e, E[m]? = some e → e.1 = i → m = k := by
          intro m e hme h
          have q := (eg_eff hH hme).2.2
          have q' := qk.2.2
          rw [h] at q
          rw [hek, q] at q'
          exact Option.some.inj (Option.some.inj q')
        have q1 : (E.map fun e => (l.setIfInBounds i true).getD e.1 false) = (E.map fun e => l.getD e.1 false).set k true := by
          refine List.ext_getElem? fun m => ?_
          rw [List.getElem?_set, List.getElem?_map, List.getElem?_map]
          cases hE : E[m]? with
          | none =>
            have : E.length ≤ m := List.getElem?_eq_none_iff.1 hE
            rw [if_neg (by omega)]; rfl
          | some e =>
            simp only [Option.map_some]
            rw [getD_set1 hil]
            by_cases c : k = m
            · subst c
              rw [hk] at hE
              obtain rfl := Option.some.inj hE
              rw [if_pos hek.symm, if_pos rfl, if_pos (by simpa using hkl)]
            · rw [if_neg (fun h => c (hm m e hE h.symm).symm), if_neg c]
        have q2 : (E.map fun e => (x.put (some d) v').tmps.getD e.2 undef) = (E.map fun e => x.tmps.getD e.2 undef).set k v' := by
          refine List.ext_getElem? fun m => ?_
          rw [List.getElem?_set, List.getElem?_map, List.getElem?_map]
          cases hE : E[m]? with
          | none =>
            have : E.length ≤ m := List.getElem?_eq_none_iff.1 hE
            rw [if_neg (by omega)]; rfl
          | some e =>
            simp only [Option.map_some]
            rw [hgd hdlt]
            by_cases c : k = m
            · subst c
              rw [hk] at hE
              obtain rfl := Option.some.inj hE
              rw [if_pos hde, if_pos rfl, if_pos (by simpa using hkl)]
            · have hne : e.1 ≠ i := fun h => c (hm m e hE h).symm
              rw [if_neg (hother hdlt e (List.mem_of_getElem? hE) hne), if_neg c]
        rw [q1, q2]
        exact hv
  · rintro l x W ⟨hs, hS, x1, x2, x3, x4, x5⟩ hall
    have hall' : ∀ j, j < N → l.getD j false = true := fun j hj => getD_tt (by omega) (hall j (by omega))
    have q1 : (E.map fun e => l.getD e.1 false) = E.map fun _ => true := List.map_congr_left fun e he => by
      obtain ⟨k, hk⟩ := List.getElem?_of_mem he
      exact hall' e.1 (eg_eff hH hk).1
    rw [q1] at x5
    have hFx := putE_get AF x (by rw [hsz, x2]) E
    have hx : x = putE AF E (E.map fun e => x.tmps.getD e.2 undef) := by
      refine act_ext (Array.ext_getElem? fun t => ?_) (by rw [putE_defers, hdf, x1])
      rw [hFx]
      by_cases c1 : t ∈ E.map (·.2)
      · rw [if_pos c1]
      · rw [if_neg c1]
        by_cases hc : ∃ j, j < N ∧ dstOf ops j = some t
        · obtain ⟨j, hj, hjt⟩ := hc
          refine x3 j hj (fun e heE hej => c1 ?_) (hall' j hj) t hjt
          obtain ⟨k, hk⟩ := List.getElem?_of_mem heE
          rcases (eg_eff hH hk).2.1 with ⟨q, -⟩ | ⟨q, -⟩
          · rw [hej, hjt] at q
            exact List.mem_map.2 ⟨e, heE, (Option.some.inj q).symm⟩
          · rw [hej, hjt] at q
            cases q
        · have hno : ∀ j, j < N → dstOf ops j ≠ some t := fun j hj e => hc ⟨j, hj, e⟩
          rw [x4 t (fun j hj e => absurd e (hno j hj)), hsame t (fun j hj _ => hno j hj)]
    have ht := done _ W (by simp) x5
    rw [← hx] at ht
    exact ht
end

end Go.Proofs.Ytladkknbkgomfaa

/-
  Plants: the program's plant in memory; valid, Closed, Path, Copy.
-/
set_option linter.unusedSimpArgs false
set_option linter.unusedVariables false
namespace Go.Proofs.Ytladkknbkgomfaa
open Go.RowKit Mr
/-- The ring of a plant. -/
def ringW (D : List T3) (lag j : Nat) : T3 := if j ≤ lag then ringV D (lag + 1) j else f3
/-- The cells of a plant: its faults, its drives so far, its lag, what is shut, whether it is fired, the boxes of what always shows something. -/
def plF (l : List Brk) (D : List T3) (lag : Nat) (sh : T3) (fi : Bool) (wp : Nat → Option Nat) (k : Nat) : Value :=
  if k = 0 then .bool true else if k = 1 then .bool fi
  else if k < 65 then .bool (at3 (ringW D lag ((k - 2) / 3)) ((k - 2) % 3))
  else if k = 65 then .int .i64 ((D.length % (lag + 1) : Nat) : Int)
  else if k = 66 then .int .i64 ((lag : Nat) : Int)
  else if k < 70 then .bool (hasB 3 ((k - 67 : Nat) : Int) l).1
  else if k < 73 then .bool (hasB 4 ((k - 70 : Nat) : Int) l).1
  else if k < 76 then .bool (at3 sh (k - 73))
  else if k < 79 then .bool (hasB 2 ((k - 76 : Nat) : Int) l).1
  else if k < 82 then .bool (hasB 1 ((k - 79 : Nat) : Int) l).1
  else .pointer ((wp (k - 82)).map fun b => ⟨b, 0, none⟩)
/-- A box that always shows something. -/
def WireOk (N M P : Nat) (r : Bool × Bool) (W : World) : Option Nat → Prop
  | none => r.1 = false
  | some b => r.1 = true ∧ N ≤ b ∧ b < M ∧ b ≠ P ∧ W.cell? ⟨b, 0, none⟩ = some (.bool r.2)
def wireK (q : Nat) : Int := if q < 3 then 5 else 6
structure PlAt (N M P : Nat) (l : List Brk) (D : List T3) (lag : Nat) (sh : T3) (fi : Bool) (wp : Nat → Option Nat) (W : World) : Prop where
  hP : N ≤ P ∧ P < M ∧ M ≤ W.heap.size
  fb : W.heap[P]? = some (fO 88 (plF l D lag sh fi wp) 77)
  wi : ∀ q, q < 6 → WireOk N M P (hasB (wireK q) ((q % 3 : Nat) : Int) l) W (wp q)
section
variable {N M P : Nat} {l : List Brk} {D : List T3} {lag : Nat} {sh : T3} {fi : Bool} {wp : Nat → Option Nat} {w W : World} {S : Nat → Prop}
theorem WireOk.keep {r : Bool × Bool} {o : Option Nat} (h : WireOk N M P r w o) (hk : KeepX S w W) (hS : ∀ b, N ≤ b → b < M → b ≠ P → ¬ S b) : WireOk N M P r W o := by
  cases o with
  | none => exact h
  | some b => exact ⟨h.1, h.2.1, h.2.2.1, h.2.2.2.1, hk.cell h.2.2.2.2 (hS b h.2.1 h.2.2.1 h.2.2.2.1)⟩
theorem PlAt.keep (h : PlAt N M P l D lag sh fi wp w) (hk : KeepX S w W) (hS : ∀ b, N ≤ b → b < M → ¬ S b) : PlAt N M P l D lag sh fi wp W :=
  ⟨⟨h.hP.1, h.hP.2.1, Nat.le_trans h.hP.2.2 hk.size⟩, hk.blk h.fb (hS P h.hP.1 h.hP.2.1), fun q hq => (h.wi q hq).keep hk fun b h1 h2 _ => hS b h1 h2⟩
theorem PlAt.step (h : PlAt N M P l D lag sh fi wp w) (hb : Below w.heap.size w W) : PlAt N M P l D lag sh fi wp W := h.keep (S := fun _ => False) (KeepX.of_below hb) fun _ _ _ c => c
theorem PlAt.cell (h : PlAt N M P l D lag sh fi wp W) {k : Nat} (hk : k < 88) : W.cell? ⟨P, k, none⟩ = some (plF l D lag sh fi wp k) := fb_cell h.fb hk
theorem PlAt.lt (h : PlAt N M P l D lag sh fi wp W) : P < W.heap.size := blk_lt h.fb
end
section
variable {N M P : Nat} {l : List Brk} {D : List T3} {lag : Nat} {sh : T3} {fi : Bool} {wp : Nat → Option Nat} {w : World}
theorem pvalid (h : PlAt N M P l D lag sh fi wp w) : Calls Try.prog 23 #[.pointer (some ⟨P, 0, none⟩)] w fun e w' => e = .returned (.bool true) ∧ w' = w := valid_any (h.cell (show 0 < 88 by decide))
def t3A (t : T3) : Value := .agg #[.bool t.1, .bool t.2.1, .bool t.2.2]
set_option maxRecDepth 20000 in
theorem Closed_any (h : PlAt N M P l D lag sh fi wp w) : Calls Try.prog 11 #[.pointer (some ⟨P, 0, none⟩)] w fun e w' => e = .returned (t3A sh) ∧ Below w.heap.size w w' := by
  have CV := Lib.hid (fun W (hW : Below w.heap.size w W) => pvalid (h.step hW))
  have c0 : w.cell? ⟨P, 73, none⟩ = some (.bool sh.1) := h.cell (show 73 < 88 by decide)
  have c1 : w.cell? ⟨P, 74, none⟩ = some (.bool sh.2.1) := h.cell (show 74 < 88 by decide)
  have c2 : w.cell? ⟨P, 75, none⟩ = some (.bool sh.2.2) := h.cell (show 75 < 88 by decide)
  have hl := h.lt
  clear h
  unfold t3A
  go_enter Try.func11, Try.ntmps11
  go_wp2_with (go_at_call 23; refine (CV.out _ (by repeat' (first | exact Below.refl _ _ | assumption | apply bDrewN | apply bDrew | apply bAlloc | (refine bSet ?_ ?_ _) | (refine bStep ?_ (by assumption)) | omega | (simp <;> omega)))).mono ?_; rintro e w1 ⟨rfl, rfl⟩)
  exact bodyPost_ret (v := .agg #[.bool sh.1, .bool sh.2.1, .bool sh.2.2]) (by simp only [results, Try.results11]; go_simp) rfl ⟨rfl, (by repeat' (first | exact Below.refl _ _ | assumption | apply bDrewN | apply bDrew | apply bAlloc | (refine bSet ?_ ?_ _) | (refine bStep ?_ (by assumption)) | omega | (simp <;> omega)))⟩
/-- whether current can flow -/
def pathB (sh : T3) (fi : Bool) : Bool := !fi && sh.2.1 && (sh.1 || sh.2.2)
set_option maxRecDepth 20000 in
theorem Path_any (h : PlAt N M P l D lag sh fi wp w) : Calls Try.prog 14 #[.pointer (some ⟨P, 0, none⟩)] w fun e w' => e = .returned (.bool (pathB sh fi)) ∧ Below w.heap.size w w' := by
  have CV := Lib.hid (pvalid h)
  have c0 : w.cell? ⟨P, 73, none⟩ = some (.bool sh.1) := h.cell (show 73 < 88 by decide)
  have c1 : w.cell? ⟨P, 74, none⟩ = some (.bool sh.2.1) := h.cell (show 74 < 88 by decide)
  have c2 : w.cell? ⟨P, 75, none⟩ = some (.bool sh.2.2) := h.cell (show 75 < 88 by decide)
  have c3 : w.cell? ⟨P, 1, none⟩ = some (.bool fi) := h.cell (show 1 < 88 by decide)
  have hl := h.lt
  clear h
  obtain ⟨a, b, c⟩ := sh
  unfold pathB
  dsimp only at *
  cases fi <;> cases a <;> cases b <;> cases c
  all_goals
    go_enter Try.func14, Try.ntmps14
    go_wp2_with (go_at_call 23; refine CV.out.mono ?_; rintro e w1 ⟨rfl, rfl⟩)
    first
    | exact bodyPost_ret (v := .bool false) (by simp only [results, Try.results14]; go_simp) rfl ⟨rfl, (by repeat' (first | exact Below.refl _ _ | assumption | apply bDrewN | apply bDrew | apply bAlloc | (refine bSet ?_ ?_ _) | (refine bStep ?_ (by assumption)) | omega | (simp <;> omega)))⟩
    | exact bodyPost_ret (v := .bool true) (by simp only [results, Try.results14]; go_simp) rfl ⟨rfl, (by repeat' (first | exact Below.refl _ _ | assumption | apply bDrewN | apply bDrew | apply bAlloc | (refine bSet ?_ ?_ _) | (refine bStep ?_ (by assumption)) | omega | (simp <;> omega)))⟩
theorem fA_back {n : Nat} {f : Nat → Value} : (fA n f).toList.toArray = fA n f := by simp
theorem plF_one {k : Nat} : (plF l D lag sh fi wp k).oneCell' = true := by
  unfold plF
  repeat' split
  all_goals rfl
theorem plZero : Try.zeroCells77.size = 88 := by kernel_rfl
theorem plSize : (Try.prog.info? 77).map (·.size) = some 88 := by kernel_rfl
set_option maxRecDepth 20000 in
set_option maxHeartbeats 1000000 in
theorem Copy_any (h : PlAt N M P l D lag sh fi wp w) : Calls Try.prog 7 #[.pointer (some ⟨P, 0, none⟩)] w fun e w' => ∃ P', e = .returned (.pointer (some ⟨P', 0, none⟩)) ∧ M ≤ P' ∧ PlAt N w'.heap.size P' l D lag sh fi wp w' ∧ w.heap.size ≤ P' ∧ Below w.heap.size w w' := by
  have CV := Lib.hid (pvalid h)
  have H := Lib.hid h
  have hl := h.lt
  have HS := Lib.hid (show (fA 88 (plF l D lag sh fi wp)).toList.length = 88 by rw [fA_list]; simp)
  have HONE := Lib.hid (show (fA 88 (plF l D lag sh fi wp)).all (·.oneCell') = true from fA_one fun k _ => plF_one)
  have HSZ := Lib.hid (show (fA 88 (plF l D lag sh fi wp)).size = 88 from fA_size _ _)
  clear h
  go_enter Try.func7, Try.ntmps7
  go_upto_region 4 with (first | (go_at_call 23; refine CV.out.mono ?_; rintro e w1 ⟨rfl, hw⟩; have hw2 := hw.symm; clear hw; subst hw2) | (refine wpList_load_mid rfl 77 (.tmp 8) rfl P 0 rfl (fA 88 (plF l D lag sh fi wp)).toList _ (fb_range H.out.fb) Try.underlying77 rfl (by rw [HS.out]; exact plSize) ?_) | (refine wpList_store_mid rfl 77 (.tmp 3) (.tmp 9) rfl w.heap.size 0 (fA 88 (plF l D lag sh fi wp)) rfl (by first | rfl | (rw [fA_back]; rfl)) (by rw [HSZ.out]; exact there_new plZero) (by rw [HSZ.out]; exact plSize) HONE.out ?_))
  have HN : Hid (((w.alloc (.cells Try.zeroCells77 77)).setCells w.heap.size 0 (fA 88 (plF l D lag sh fi wp)).toList).heap[w.heap.size]? = some (fO 88 (plF l D lag sh fi wp) 77)) := (setCells_all (blk_new w _) (by rw [HS.out, plZero])).trans (by rw [fA_back]; rfl)
  have HB : Hid (Below w.heap.size w ((w.alloc (.cells Try.zeroCells77 77)).setCells w.heap.size 0 (fA 88 (plF l D lag sh fi wp)).toList)) := bSetCells _ _ bAl (Nat.le_refl _)
  have HZ : Hid (((w.alloc (.cells Try.zeroCells77 77)).setCells w.heap.size 0 (fA 88 (plF l D lag sh fi wp)).toList).heap.size = w.heap.size + 1) := by unfold Hid; rw [setCells_size]; simp
  generalize (w.alloc (.cells Try.zeroCells77 77)).setCells w.heap.size 0 (fA 88 (plF l D lag sh fi wp)).toList = W2 at *
  go_wp2_with fail
  refine bodyPost_ret (v := .pointer (some ⟨w.heap.size, 0, none⟩)) (by simp only [results, Try.results7]; go_simp) rfl ⟨w.heap.size, rfl, H.out.hP.2.2, ⟨⟨Nat.le_trans (Nat.le_trans H.out.hP.1 (Nat.le_of_lt H.out.hP.2.1)) H.out.hP.2.2, by rw [HZ.out]; omega, Nat.le_refl _⟩, HN.out, fun q hq => ?_⟩, Nat.le_refl _, HB.out⟩
  have := (H.out.step HB.out).wi q hq
  have hz := HZ.out
  have h3 := H.out.hP.2.2
  revert this
  cases wp q with
  | none => exact fun h => h
  | some b =>
    rintro ⟨h1, h2, h4, h5, h6⟩
    exact ⟨h1, h2, by omega, by omega, h6⟩
end
end Go.Proofs.Ytladkknbkgomfaa

/-
  A drawn region whose operations only read, but for the last ones: one operation at a time, with what follows under lock.
-/
set_option linter.unusedSimpArgs false
set_option linter.unusedVariables false
namespace Go.Proofs.Ytladkknbkgomfaa
open Go.RowKit
/-- The walk, locked. -/
structure WT (P : Program) (ops : Array Oper) (w : World) (Q : Act → Prop) (l : List Oper) (a : Act) : Prop where
  out : wpStill P ops w Q l a
section
variable {P : Program} {ops : Array Oper} {w : World} {Q : Act → Prop} {a : Act} {o : Oper} {rest : List Oper} {j d : Nat} {want b : Bool} {v : Value}
theorem still_of_quiet {next : Act → Prop} (hv : o.quietAt P a (fun W => W = w) w v) (h : next (a.put o.dst v)) : o.still P a w next := by
  unfold Oper.quietAt at hv
  unfold Oper.still
  generalize (execOp a.eval o).run P w = r at *
  cases r with
  | ok n w' =>
    cases n with
    | value u => obtain ⟨h1, h2⟩ := hv; subst h2; exact ⟨h1, h⟩
    | skip => obtain ⟨h1, h2⟩ := hv; subst h2; exact ⟨h1, h⟩
    | enter f args => obtain ⟨h1, h2⟩ := hv; exact ⟨h1, v, h2, h⟩
    | _ => exact hv.elim
  | _ => exact hv.elim
theorem WT.fin (h : Q a) : WT P ops w Q [] a := ⟨wpStill_nil h⟩
theorem WT.skip (hg : o.guard = some (j, want)) (hd : (ops[j]?).bind (·.dst) = some d) (hv : a.tmps[d]? = some (.bool (!want))) (h : WT P ops w Q rest (a.put o.dst undef)) : WT P ops w Q (o :: rest) a := ⟨by
  have hw : Region.wanted o (yielded ops a.tmps) = false := by
    unfold Region.wanted yielded
    rw [hg]
    dsimp only
    rw [hd, Option.bind_some, hv]
    cases want <;> rfl
  unfold wpStill
  rw [hw]
  exact h.out⟩
theorem WT.skipU (hg : o.guard = some (j, want)) (hd : (ops[j]?).bind (·.dst) = some d) (hv : a.tmps[d]? = some undef) (h : WT P ops w Q rest (a.put o.dst undef)) : WT P ops w Q (o :: rest) a := ⟨by
  have hw : Region.wanted o (yielded ops a.tmps) = false := by
    unfold Region.wanted yielded
    rw [hg]
    dsimp only
    rw [hd, Option.bind_some, hv]
    cases want <;> rfl
  unfold wpStill
  rw [hw]
  exact h.out⟩
theorem WT.val (hg : o.guard = none) (v : Value) (hv : o.quietAt P a (fun W => W = w) w v) (h : WT P ops w Q rest (a.put o.dst v)) : WT P ops w Q (o :: rest) a := ⟨by
  have hw : Region.wanted o (yielded ops a.tmps) = true := by unfold Region.wanted; rw [hg]
  unfold wpStill
  rw [hw]
  exact still_of_quiet hv h.out⟩
theorem WT.valg (hg : o.guard = some (j, want)) (hd : (ops[j]?).bind (·.dst) = some d) (hv : a.tmps[d]? = some (.bool want)) (v : Value) (hq : o.quietAt P a (fun W => W = w) w v) (h : WT P ops w Q rest (a.put o.dst v)) : WT P ops w Q (o :: rest) a := ⟨by
  have hw : Region.wanted o (yielded ops a.tmps) = true := by
    unfold Region.wanted yielded
    rw [hg]
    dsimp only
    rw [hd, Option.bind_some, hv]
    cases want <;> rfl
  unfold wpStill
  rw [hw]
  exact still_of_quiet hq h.out⟩
end
theorem wp_tail_lock {P : Program} {id : Nat} {Q : Exit → Act → World → Prop} {a : Act} {w : World} {l : List Oper} (n : Nat) (hm : P.follows .mixedOrders = true) (hB : Region.lexTailB .any l.toArray n = true)
    (h : WT P l.toArray w.drew (fun a' => wpList P l.toArray Q (l.drop n) a' w.drew) (l.take n) a) : (Code.region id l.toArray true).wp P Q a w := wp_region_still_tail n hm hB h.out
end Go.Proofs.Ytladkknbkgomfaa
