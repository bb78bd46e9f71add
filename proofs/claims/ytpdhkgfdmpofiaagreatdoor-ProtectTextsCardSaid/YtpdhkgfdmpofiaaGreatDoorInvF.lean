/-
  Inside a fence: the same rule, where each reading operation is carried out in the frame that all of them leave.
-/
import Derived.Test.YtpdhkgfdmpofiaaGreatDoorInvIn
set_option linter.unusedSimpArgs false
set_option linter.unusedVariables false
namespace Go.Proofs.YtpdhkgfdmpofiaaGreatDoor
open Go.RowKit

section
variable {F : Fence} {n : Nat} {P : Program} {ops : Array Oper} {Q : Exit → Act → World → Prop}

def dstOf (ops : Array Oper) (i : Nat) : Option Nat := (ops[i]?).bind (·.dst)
def plainOp : Op → Bool
  | .select .. => false
  | .defer .. => false
  | _ => true
/-- What is asked of the N operations: no guard; each writes a slot of its own; what it looks at is written by operations that it waits for, or by none of them. -/
def headB (ops : Array Oper) (N : Nat) : Bool := (List.range N).all fun i => match ops[i]? with
  | none => false
  | some o => o.guard.isNone && plainOp o.op && o.dst.isSome && (o.op.operands.all fun x => match x with
      | .tmp t => (List.range N).all fun j => decide (dstOf ops j ≠ some t) || (waits ops i).contains j
      | _ => true) && (List.range N).all fun j => decide (j = i) || decide (dstOf ops j ≠ dstOf ops i)
structure HeadAt (ops : Array Oper) (N i : Nat) (o : Oper) : Prop where
  guard : o.guard = none
  sel : ∀ cs b, o.op ≠ .select cs b
  dfr : ∀ c, o.op ≠ .defer c
  dst : ∃ d, o.dst = some d
  looks : ∀ t, Operand.tmp t ∈ o.op.operands → ∀ j, j < N → dstOf ops j = some t → j ∈ waits ops i
  one : ∀ j, j < N → j ≠ i → dstOf ops j ≠ dstOf ops i
theorem head_at {N i : Nat} {o : Oper} (h : headB ops N = true) (hi : i < N) (ho : ops[i]? = some o) : HeadAt ops N i o := by
  have h1 := List.all_eq_true.1 h i (List.mem_range.2 hi)
  rw [ho] at h1
  simp only [Bool.and_eq_true] at h1
  obtain ⟨⟨⟨⟨h1, h2⟩, h3⟩, h4⟩, h5⟩ := h1
  refine ⟨by simpa using h1, ?_, ?_, Option.isSome_iff_exists.1 h3, ?_, ?_⟩
  · intro cs b e; rw [e] at h2; simp [plainOp] at h2
  · intro c e; rw [e] at h2; simp [plainOp] at h2
  · intro t ht j hj hd
    rw [Array.all_eq_true'] at h4
    have h6 := h4 (.tmp t) ht
    have h7 := List.all_eq_true.1 h6 j (List.mem_range.2 hj)
    simp only [Bool.or_eq_true, decide_eq_true_eq] at h7
    rcases h7 with h7 | h7
    · exact absurd hd h7
    · simpa using h7
  · intro j hj hne
    have h6 := List.all_eq_true.1 h5 j (List.mem_range.2 hj)
    simp only [Bool.or_eq_true, decide_eq_true_eq] at h6
    rcases h6 with h6 | h6
    · exact absurd h6 hne
    · exact h6

theorem eval_same {a b : Act} {x : Operand} (h : ∀ t, x = .tmp t → a.tmps[t]? = b.tmps[t]?) : a.eval x = b.eval x := by
  cases x with
  | tmp t => simp only [Act.eval, Array.getD_eq_getD_getElem?]; rw [h t rfl]
  | const v => rfl
  | global g => rfl
  | func f => rfl

/-- What each of the N operations does in the frame AF. -/
def OpVal (P : Program) (AF : Act) (w : World) (o : Oper) : Prop := ∃ d v, o.dst = some d ∧ AF.tmps[d]? = some v ∧ (execOp AF.eval o).run P w = .ok (.value v) w ∧ o.about P w AF.eval = none
def AllVals (P : Program) (AF : Act) (w : World) : List Oper → Prop
  | [] => True
  | o :: l => OpVal P AF w o ∧ AllVals P AF w l
theorem AllVals.at_ {AF : Act} {w : World} : ∀ {l : List Oper}, AllVals P AF w l → ∀ (i : Nat) (o : Oper), l[i]? = some o → OpVal P AF w o := by
  intro l
  induction l with
  | nil => intro _ i o h; simp at h
  | cons x l ih =>
    intro h i o ho
    cases i with
    | zero => simp at ho; subst ho; exact h.1
    | succ i => exact ih h.2 i o (by simpa using ho)

theorem regionIn_final {id : Nat} {a : Act} {w : World} (N : Nat) (AF : Act) (hm : P.follows .mixedOrders = true) (he : early ops = true) (hs0 : ops.size = N + 2)
    (hA : ((List.range N).all fun j => (ancs ops 6 N).contains j) = true) (hB : (waits ops (N + 1)).contains N = true) (hH : headB ops N = true)
    (hdf : AF.defers = a.defers) (hsz : AF.tmps.size = a.tmps.size) (hsame : ∀ t, (∀ j, j < N → dstOf ops j ≠ some t) → AF.tmps[t]? = a.tmps[t]?)
    (hv : AllVals P AF w.drew (ops.toList.take N))
    (tail : wpOpIn F n P ops Q N (fun a1 w1 => wpOpIn F n P ops Q (N + 1) (fun a2 w2 => Q .normal a2 w2) a1 w1) AF w.drew) :
    (Code.region id ops true).wpIn F n P Q a w := by
  have hval : ∀ i o, i < N → ops[i]? = some o → OpVal P AF w.drew o := fun i o hi ho => hv.at_ i o (by
    rw [List.getElem?_take_of_lt hi, Array.getElem?_toList]; exact ho)
  refine regionIn_head N hm he hs0 hA hB (fun l x => x.defers = a.defers ∧ x.tmps.size = a.tmps.size ∧ (∀ j, j < N → l.getD j false = true → ∀ t, dstOf ops j = some t → x.tmps[t]? = AF.tmps[t]?) ∧
    (∀ t, (∀ j, j < N → dstOf ops j = some t → l.getD j false = false) → x.tmps[t]? = a.tmps[t]?)) ?_ ?_ ?_
  · refine ⟨rfl, rfl, fun j hj h => ?_, fun _ _ => rfl⟩
    rw [Array.getD_eq_getD_getElem?] at h
    simp [hs0, show j < N + 2 by omega] at h
  · rintro i o hi ho l x ⟨x1, x2, x3, x4⟩ hls hl hd
    have hH' := head_at hH hi ho
    obtain ⟨d, v, hd1, hd2, hd3, hd4⟩ := hval i o hi ho
    have hw := waits_ok ho hd
    have hdi : dstOf ops i = some d := by unfold dstOf; rw [ho]; exact hd1
    have hev : ∀ y ∈ o.op.operands, x.eval y = AF.eval y := by
      intro y hy
      refine eval_same fun t ht => ?_
      subst ht
      by_cases hc : ∃ j, j < N ∧ dstOf ops j = some t
      · obtain ⟨j, hj, hjt⟩ := hc
        exact x3 j hj (hw j (hH'.looks t hy j hj hjt)) t hjt
      · have hno : ∀ j, j < N → dstOf ops j ≠ some t := fun j hj e => hc ⟨j, hj, e⟩
        rw [x4 t (fun j hj e => absurd e (hno j hj)), hsame t hno]
    have hex := execOp_congr o hH'.sel hev
    have hab := about_congr (P := P) o w.drew hev
    unfold wpOpIn
    rw [ho]
    simp only [Region.wanted, hH'.guard, if_true]
    unfold Oper.wpIn
    rw [Oper.semAt_eq _ _ _ hH'.dfr, hex, hd3, hab, hd4]
    refine ⟨fun f hf => (by cases hf), ?_⟩
    rw [Oper.uponIn_value, hd1]
    have hil : i < l.size := by rw [hls]; exact (Array.getElem?_eq_some_iff.1 ho).1
    refine ⟨rfl, x1, by simpa [Act.put] using x2, ?_, ?_⟩
    · intro j hj hjl t hjt
      simp only [Act.put]
      rw [Array.getElem?_setIfInBounds]
      by_cases e : d = t
      · subst e
        have hlt : d < x.tmps.size := by rw [x2, ← hsz]; exact (Array.getElem?_eq_some_iff.1 hd2).1
        rw [if_pos rfl, if_pos hlt, hd2]
      · rw [if_neg e]
        have hji : j ≠ i := fun c => by subst c; rw [hdi] at hjt; exact e (Option.some.inj hjt)
        rw [getD_set1 hil, if_neg (fun c => hji c.symm)] at hjl
        exact x3 j hj hjl t hjt
    · intro t ht
      simp only [Act.put]
      rw [Array.getElem?_setIfInBounds]
      have hdt : d ≠ t := fun c => by
        subst c
        have := ht i hi hdi
        rw [getD_set1 hil, if_pos rfl] at this
        cases this
      rw [if_neg hdt]
      refine x4 t fun j hj hjt => ?_
      have := ht j hj hjt
      rw [getD_set1 hil] at this
      split at this
      · cases this
      · exact this
  · rintro l x ⟨x1, x2, x3, x4⟩ hls hall
    have hx : x = AF := by
      obtain ⟨xt, xd⟩ := x
      obtain ⟨ft, fd⟩ := AF
      dsimp only at *
      have e1 : xt = ft := by
        refine Array.ext_getElem? fun t => ?_
        by_cases hc : ∃ j, j < N ∧ dstOf ops j = some t
        · obtain ⟨j, hj, hjt⟩ := hc
          exact x3 j hj (getD_tt (by omega) (hall j hj)) t hjt
        · have hno : ∀ j, j < N → dstOf ops j ≠ some t := fun j hj e => hc ⟨j, hj, e⟩
          rw [x4 t (fun j hj e => absurd e (hno j hj)), hsame t hno]
      rw [e1, x1, hdf]
    rw [hx]
    exact tail

theorem updAll_defers (a : Act) (l : List (Nat × Value)) : (updAll a l).defers = a.defers := by
  induction l with
  | nil => rfl
  | cons p l ih => exact ih
theorem updAll_size (a : Act) (l : List (Nat × Value)) : (updAll a l).tmps.size = a.tmps.size := by
  induction l with
  | nil => rfl
  | cons p l ih => simpa [updAll, Act.put] using ih
theorem updAll_same (a : Act) (l : List (Nat × Value)) (t : Nat) (h : ∀ p ∈ l, p.1 ≠ t) : (updAll a l).tmps[t]? = a.tmps[t]? := by
  induction l with
  | nil => rfl
  | cons p l ih =>
    have h1 := h p (List.mem_cons_self ..)
    simp only [updAll, Act.put]
    rw [Array.getElem?_setIfInBounds, if_neg h1]
    exact ih (fun q hq => h q (List.mem_cons_of_mem _ hq))
theorem regionIn_vals0 {id : Nat} {a : Act} {w : World} (N : Nat) (vals : List (Nat × Value)) (hm : P.follows .mixedOrders = true) (he : early ops = true) (hs0 : ops.size = N + 2)
    (hA : ((List.range N).all fun j => (ancs ops 6 N).contains j) = true) (hB : (waits ops (N + 1)).contains N = true) (hH : headB ops N = true)
    (hds : vals.map (fun p => some p.1) = (List.range N).map (dstOf ops)) (hv : AllVals P (updAll a vals) w.drew (ops.toList.take N))
    (tail : wpOpIn F n P ops Q N (fun a1 w1 => wpOpIn F n P ops Q (N + 1) (fun a2 w2 => Q .normal a2 w2) a1 w1) (updAll a vals) w.drew) :
    (Code.region id ops true).wpIn F n P Q a w :=
  regionIn_final N (updAll a vals) hm he hs0 hA hB hH (updAll_defers _ _) (updAll_size _ _) (fun t ht => updAll_same _ _ _ fun p hp e => by
    have h1 : some p.1 ∈ vals.map (fun p => some p.1) := List.mem_map.2 ⟨p, hp, rfl⟩
    rw [hds] at h1
    obtain ⟨j, hj, hjd⟩ := List.mem_map.1 h1
    exact ht j (List.mem_range.1 hj) (by rw [hjd, e])) hv tail
theorem regionIn_vals {id : Nat} {a : Act} {w : World} (N : Nat) (vals : List (Nat × Value)) (_ : F.round = none) (hm : P.follows .mixedOrders = true) (he : early ops = true) (hs0 : ops.size = N + 2)
    (hA : ((List.range N).all fun j => (ancs ops 6 N).contains j) = true) (hB : (waits ops (N + 1)).contains N = true) (hH : headB ops N = true)
    (hds : vals.map (fun p => some p.1) = (List.range N).map (dstOf ops)) (hv : AllVals P (updAll a vals) w.drew (ops.toList.take N))
    (tail : wpOpIn F n P ops Q N (fun a1 w1 => wpOpIn F n P ops Q (N + 1) (fun a2 w2 => Q .normal a2 w2) a1 w1) (updAll a vals) w.drew) :
    (Code.region id ops true).wpIn F n P Q a w := regionIn_vals0 N vals hm he hs0 hA hB hH hds hv tail
end

end Go.Proofs.YtpdhkgfdmpofiaaGreatDoor
