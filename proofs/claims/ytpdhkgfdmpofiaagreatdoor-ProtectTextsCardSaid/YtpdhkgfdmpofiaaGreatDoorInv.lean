/-
  A region that draws its order, by one condition on what has been carried out: each operation is walked once, from whatever state meets the condition.
-/
import Derived.Test.YtpdhkgfdmpofiaaGreatDoorB2
set_option linter.unusedSimpArgs false
set_option linter.unusedVariables false
namespace Go.Proofs.YtpdhkgfdmpofiaaGreatDoor
open Go.RowKit

section
variable {P : Program} {ops : Array Oper} {Q : Exit → Act → World → Prop}

/-- Every operation waits for earlier ones alone. -/
def early (ops : Array Oper) : Bool := (List.range ops.size).all fun i => ((ops[i]?).map (·.after.all fun e => !Region.binds .any e || decide (e.on < i))).getD true

theorem all_listed {l : Array Bool} (hsz : l.size = ops.size) (he : early ops = true) (h : Region.ready .any ops l = []) : ∀ i, i < ops.size → l.getD i true = true := by
  intro i
  induction i using Nat.strongRecOn with
  | _ i ih =>
    intro hi
    cases hl : l.getD i true with
    | true => rfl
    | false =>
      exfalso
      have hr : i ∈ Region.ready .any ops l := by
        unfold Region.ready
        rw [List.mem_filter]
        refine ⟨List.mem_range.2 hi, ?_⟩
        have ho : ops[i]? = some ops[i] := Array.getElem?_eq_getElem hi
        rw [hl, ho]
        simp only [Bool.not_false, Bool.true_and, Option.map_some, Option.getD_some]
        rw [Array.all_eq_true']
        intro e hem
        have h1 := List.all_eq_true.1 he i (List.mem_range.2 hi)
        rw [ho] at h1
        simp only [Option.map_some, Option.getD_some] at h1
        rw [Array.all_eq_true'] at h1
        have h2 := h1 e hem
        cases hb : Region.binds .any e with
        | false => simp
        | true =>
          rw [hb] at h2
          simp at h2
          have h3 := ih e.on h2 (by omega)
          have : l.getD e.on false = true := by
            rw [Array.getD_eq_getD_getElem?] at h3 ⊢
            cases hx : l[e.on]? with
            | some x => rw [hx] at h3; simpa using h3
            | none =>
              exfalso
              rw [Array.getElem?_eq_none_iff] at hx
              omega
          simp [this]
      rw [h] at hr
      exact absurd hr (by simp)

/-- How many are still to come. -/
def left (l : Array Bool) : Nat := l.toList.count false
theorem left_set {l : Array Bool} {i : Nat} (hi : i < l.size) (h : l.getD i true = false) : left (l.setIfInBounds i true) + 1 = left l := by
  obtain ⟨l⟩ := l
  simp only [left, List.setIfInBounds_toArray]
  have hi' : i < l.length := by simpa using hi
  have h' : l[i] = false := by
    rw [Array.getD_eq_getD_getElem?] at h
    simpa [hi'] using h
  rw [List.count_set hi']
  have hc : 0 < List.count false l := List.count_pos_iff.2 (h' ▸ List.getElem_mem hi')
  simp [h']
  omega
theorem ready_iff {md : Region.Mode} {l : Array Bool} {i : Nat} (h : i ∈ Region.ready md ops l) :
    i < ops.size ∧ l.getD i true = false ∧ ∀ o, ops[i]? = some o → (o.after.all fun e => !Region.binds md e || l.getD e.on false) = true := by
  unfold Region.ready at h
  rw [List.mem_filter] at h
  obtain ⟨h1, h2⟩ := h
  rw [Bool.and_eq_true] at h2
  refine ⟨List.mem_range.1 h1, by simpa using h2.1, fun o ho => ?_⟩
  have h3 := h2.2
  rw [ho] at h3
  simpa using h3

theorem any_inv (he : early ops = true) (I : Array Bool → Act → World → Prop) (hsz : ∀ l a w, I l a w → l.size = ops.size)
    (step : ∀ i o, ops[i]? = some o → ∀ l a w, I l a w → l.getD i true = false → (o.after.all fun e => !Region.binds .any e || l.getD e.on false) = true → wpOp P ops Q i (I (l.setIfInBounds i true)) a w)
    (done : ∀ l a w, I l a w → (∀ i, i < ops.size → l.getD i true = true) → Q .normal a w) :
    ∀ fuel l a w, I l a w → left l ≤ fuel → wpAny P .any ops Q fuel l a w := by
  intro fuel
  induction fuel with
  | zero =>
    intro l a w hI hf
    have hr : Region.ready .any ops l = [] := by
      rw [List.eq_nil_iff_forall_not_mem]
      intro i hi
      obtain ⟨h1, h2, _⟩ := ready_iff hi
      have := left_set (by rw [hsz l a w hI]; exact h1) h2
      omega
    exact ⟨hr, done l a w hI (all_listed (hsz l a w hI) he hr)⟩
  | succ n ih =>
    intro l a w hI hf
    refine ⟨fun hr => done l a w hI (all_listed (hsz l a w hI) he hr), fun i hi => ?_⟩
    obtain ⟨h1, h2, h3⟩ := ready_iff hi
    have ho : ops[i]? = some ops[i] := Array.getElem?_eq_getElem h1
    have hl := left_set (by rw [hsz l a w hI]; exact h1) h2
    exact wpOp_mono (fun a' w' h' => ih _ a' w' h' (by omega)) (step i _ ho l a w hI h2 (h3 _ ho))

theorem left_new (n : Nat) : left (Array.replicate n false) = n := by simp [left]

/-- THE RULE: a condition I on which operations have been carried out, the frame and the world. -/
theorem region_inv {id : Nat} {a : Act} {w : World} (hm : P.follows .mixedOrders = true) (he : early ops = true) (I : Array Bool → Act → World → Prop) (h0 : I (Array.replicate ops.size false) a w.drew) (hsz : ∀ l a w, I l a w → l.size = ops.size)
    (step : ∀ i o, ops[i]? = some o → ∀ l a w, I l a w → l.getD i true = false → (o.after.all fun e => !Region.binds .any e || l.getD e.on false) = true → wpOp P ops Q i (I (l.setIfInBounds i true)) a w)
    (done : ∀ l a w, I l a w → (∀ i, i < ops.size → l.getD i true = true) → Q .normal a w) : (Code.region id ops true).wp P Q a w :=
  wp_region_any hm (any_inv he I hsz step done ops.size _ _ _ h0 (by rw [left_new]; exact Nat.le_refl _))

theorem wpOp_plain {i : Nat} {o : Oper} {K : Act → World → Prop} {a : Act} {w : World} (hi : ops[i]? = some o) (hg : o.guard = none) (h : o.wp P a w K Q) : wpOp P ops Q i K a w := by
  unfold wpOp
  rw [hi]
  simp only [Region.wanted, hg, if_true]
  exact .inl h

end
end Go.Proofs.YtpdhkgfdmpofiaaGreatDoor
