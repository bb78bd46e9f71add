/-
  Check of both sides, in plain numbers.
-/
import Derived.Test.YtpdhkgfdmpofiaaGreatDoorWt
import Derived.Test.YtpdhkgfdmpofiaaGreatDoorTa
set_option linter.unusedSimpArgs false
set_option linter.unusedVariables false
namespace Go.Proofs.YtpdhkgfdmpofiaaGreatDoor
open Sx Go.RowKit
set_option maxRecDepth 100000
def lsG : List Lf := List.replicate 22 (.i .i64)
/-! Check -/
def cR (x : Int) : Bool := bif decide (x < 0) then true else decide (x > 1099511627776)
def cP (x : Int) : Bool := bif decide (x < 0) then true else !(bif decide (x ≥ -1099511627776) then decide (x ≤ 1099511627776) else false)
def tk (x : Int) : Bool := bif decide (x ≥ 1) then decide (x ≤ 100) else false
def ladder (e : Int) : List Bool → Int
  | [] => e
  | c :: cs => bif c then 2 else ladder e cs
def firstB : List Bool → Int → Int
  | [], _ => -1
  | c :: cs, k => bif c then k else firstB cs (k + 1)
def qsG (n : Nat → Int) : List Int := [n 0, n 1, n 2, n 3, n 4, n 5, n 21, n 6, n 7, n 8, n 9, n 10]
def dsG (n : Nat → Int) : List Int := [n 11, n 12, n 13, n 14, n 15, n 16, n 17]
def lastG (n : Nat → Int) : Bool := bif decide (n 18 < 1) then true else bif decide (n 18 > 65536) then true else bif !tk (n 19) then true else !tk (n 20)
def chkR (n : Nat → Int) : Int := ladder (ladder (bif lastG n then 2 else 0) ((dsG n).map fun x => !tk x)) ((qsG n).map cR)
def badP (n : Nat → Int) : Bool := bif decide (firstB ((qsG n).map cP) 0 ≥ 0) then true else decide (firstB ((dsG n).map fun x => !tk x) 0 ≥ 0)
def chkP (n : Nat → Int) : Int := bif (bif badP n then true else lastG n) then 2 else 0
theorem ladder_eq (e : Int) (l : List Bool) : ladder e l = if l.any id then 2 else e := by
  induction l with
  | nil => rfl
  | cons c l ih => cases c <;> simp [ladder, ih]
theorem firstB_eq (l : List Bool) : ∀ k : Int, 0 ≤ k → decide (firstB l k ≥ 0) = l.any id := by
  induction l with
  | nil => intro k _; rfl
  | cons c l ih =>
    intro k hk
    cases c with
    | true => simp [firstB, hk]
    | false => simp [firstB, ih (k + 1) (by omega)]
theorem cP_eq (x : Int) : cP x = cR x := by
  unfold cP cR
  by_cases h1 : x < 0
  · simp [h1]
  · have h2 : x ≥ -1099511627776 := by omega
    by_cases h3 : x ≤ 1099511627776
    · simp [h1, h2, h3, show ¬ 1099511627776 < x by omega]
    · simp [h1, h2, h3, show 1099511627776 < x by omega]
theorem chk_eq (n : Nat → Int) : chkP n = chkR n := by
  unfold chkP chkR badP
  rw [firstB_eq _ _ (by decide), firstB_eq _ _ (by decide), ladder_eq, ladder_eq, List.map_congr_left (fun x _ => cP_eq x)]
  cases ((qsG n).map cR).any id <;> cases ((dsG n).map fun x => !tk x).any id <;> cases lastG n <;> rfl


theorem chkR_eval (n : Nat → Int) : res (evFn tbl [] (fun _ => none) 100 8 18 [.agg (symL (fun _ => false) n 0 lsG)] st0) = some ([], .one (.i .i64 (chkR n))) := by kernel_rfl
theorem chkP_eval (n : Nat → Int) : res (evFn tbl [] (fun _ => none) 100 8 15 [.agg (symL (fun _ => false) n 0 lsG)] st0) = some ([], .one (.i .i64 (chkP n))) := by kernel_rfl
theorem PCheck_any (n : Nat → Int) (w : World) (hG : Glob0 w) : Calls Tryz.prog 15 #[.agg #[.int .i64 (n 0), .int .i64 (n 1), .int .i64 (n 2), .int .i64 (n 3), .int .i64 (n 4), .int .i64 (n 5), .int .i64 (n 6), .int .i64 (n 7), .int .i64 (n 8), .int .i64 (n 9), .int .i64 (n 10), .int .i64 (n 11), .int .i64 (n 12), .int .i64 (n 13), .int .i64 (n 14), .int .i64 (n 15), .int .i64 (n 16), .int .i64 (n 17), .int .i64 (n 18), .int .i64 (n 19), .int .i64 (n 20), .int .i64 (n 21)]] w fun e w' => e = .returned (.int .i64 (chkR n)) ∧ Below w.heap.size w w' := by
  have h := res_any tbl_ok tbl_any spNone (args := [.agg (symL (fun _ => false) n 0 lsG)]) (fun x hx => by
    simp only [List.mem_cons, List.not_mem_nil, or_false] at hx
    subst hx
    exact symL_free _ _ _ _) (chkP_eval n) (fun _ h => by cases h) w hG
  rw [chk_eq] at h
  exact h
theorem RCheck_any (n : Nat → Int) (w : World) (hG : Glob0 w) : Calls Tryz.prog 18 #[.agg #[.int .i64 (n 0), .int .i64 (n 1), .int .i64 (n 2), .int .i64 (n 3), .int .i64 (n 4), .int .i64 (n 5), .int .i64 (n 6), .int .i64 (n 7), .int .i64 (n 8), .int .i64 (n 9), .int .i64 (n 10), .int .i64 (n 11), .int .i64 (n 12), .int .i64 (n 13), .int .i64 (n 14), .int .i64 (n 15), .int .i64 (n 16), .int .i64 (n 17), .int .i64 (n 18), .int .i64 (n 19), .int .i64 (n 20), .int .i64 (n 21)]] w fun e w' => e = .returned (.int .i64 (chkR n)) ∧ Below w.heap.size w w' := by
  have h := res_any tbl_ok tbl_any spNone (args := [.agg (symL (fun _ => false) n 0 lsG)]) (fun x hx => by
    simp only [List.mem_cons, List.not_mem_nil, or_false] at hx
    subst hx
    exact symL_free _ _ _ _) (chkR_eval n) (fun _ h => by cases h) w hG
  exact h
theorem ladder_02 (e : Int) (he : e = 0 ∨ e = 2) (l : List Bool) : ladder e l = 0 ∨ ladder e l = 2 := by
  rw [ladder_eq]
  split
  · exact Or.inr rfl
  · exact he
theorem chkR_02 (n : Nat → Int) : chkR n = 0 ∨ chkR n = 2 := ladder_02 _ (ladder_02 _ (by cases lastG n <;> simp) _) _
theorem chkR_zero {n : Nat → Int} (h : chkR n = 0) : (∀ x ∈ qsG n, 0 ≤ x ∧ x ≤ 1099511627776) ∧ (∀ x ∈ dsG n, 1 ≤ x ∧ x ≤ 100) ∧ (1 ≤ n 18 ∧ n 18 ≤ 65536) ∧ (1 ≤ n 19 ∧ n 19 ≤ 100) ∧ 1 ≤ n 20 ∧ n 20 ≤ 100 := by
  unfold chkR at h
  rw [ladder_eq] at h
  split at h
  · exact absurd h (by decide)
  · rename_i h1
    rw [ladder_eq] at h
    split at h
    · exact absurd h (by decide)
    · rename_i h2
      have h3 : lastG n = false := by
        cases hl : lastG n with
        | false => rfl
        | true => rw [hl] at h; exact absurd h (by decide)
      refine ⟨fun x hx => ?_, fun x hx => ?_, ?_⟩
      · have : cR x = false := by
          cases hc : cR x with
          | false => rfl
          | true => exact absurd (List.any_eq_true.2 ⟨true, List.mem_map.2 ⟨x, hx, hc⟩, rfl⟩) h1
        unfold cR at this
        by_cases c1 : x < 0 <;> by_cases c2 : x > 1099511627776 <;> simp [c1, c2] at this
        omega
      · have : tk x = true := by
          cases hc : tk x with
          | true => rfl
          | false => exact absurd (List.any_eq_true.2 ⟨true, List.mem_map.2 ⟨x, hx, by rw [hc]; rfl⟩, rfl⟩) h2
        unfold tk at this
        by_cases c1 : x ≥ 1 <;> by_cases c2 : x ≤ 100 <;> simp [c1, c2] at this
        omega
      · unfold lastG tk at h3
        by_cases c1 : n 18 < 1 <;> by_cases c2 : n 18 > 65536 <;> by_cases c3 : n 19 ≥ 1 <;> by_cases c4 : n 19 ≤ 100 <;> by_cases c5 : n 20 ≥ 1 <;> by_cases c6 : n 20 ≤ 100 <;> simp [c1, c2, c3, c4, c5, c6] at h3
        omega
/-- The numbers of a guard. -/
def gL (n : Nat → Int) : List Int := [n 0, n 1, n 2, n 3, n 4, n 5, n 6, n 7, n 8, n 9, n 10, n 11, n 12, n 13, n 14, n 15, n 16, n 17, n 18, n 19, n 20, n 21]
theorem gL_len (n : Nat → Int) : (gL n).length = 22 := rfl
theorem gL_sm {n : Nat → Int} (h : chkR n = 0) : smL (gL n) := by
  obtain ⟨h1, h2, h3, h4, h5⟩ := chkR_zero h
  unfold qsG at h1
  unfold dsG at h2
  simp only [List.mem_cons, List.not_mem_nil, or_false, forall_eq_or_imp, forall_eq] at h1 h2
  intro x hx
  unfold gL at hx
  simp only [List.mem_cons, List.not_mem_nil, or_false] at hx
  rcases hx with rfl | rfl | rfl | rfl | rfl | rfl | rfl | rfl | rfl | rfl | rfl | rfl | rfl | rfl | rfl | rfl | rfl | rfl | rfl | rfl | rfl | rfl <;> omega
/-- The guard whose numbers these are. -/
def nOfL (L : List Int) : Nat → Int := fun k => L.getD k 0
theorem gL_of {L : List Int} (h : L.length = 22) : gL (nOfL L) = L := by
  match L, h with
  | [x0, x1, x2, x3, x4, x5, x6, x7, x8, x9, x10, x11, x12, x13, x14, x15, x16, x17, x18, x19, x20, x21], _ => rfl
def okGL (L : List Int) : Prop := chkR (nOfL L) = 0
theorem chkR_congr {n m : Nat → Int} (h : gL n = gL m) : chkR n = chkR m := by
  have e : ∀ k, k < 22 → n k = m k := by
    unfold gL at h
    simp only [List.cons.injEq, and_true] at h
    intro k hk
    have hc : k = 0 ∨ k = 1 ∨ k = 2 ∨ k = 3 ∨ k = 4 ∨ k = 5 ∨ k = 6 ∨ k = 7 ∨ k = 8 ∨ k = 9 ∨ k = 10 ∨ k = 11 ∨ k = 12 ∨ k = 13 ∨ k = 14 ∨ k = 15 ∨ k = 16 ∨ k = 17 ∨ k = 18 ∨ k = 19 ∨ k = 20 ∨ k = 21 := by omega
    rcases hc with rfl | rfl | rfl | rfl | rfl | rfl | rfl | rfl | rfl | rfl | rfl | rfl | rfl | rfl | rfl | rfl | rfl | rfl | rfl | rfl | rfl | rfl <;> simp only [h]
  unfold chkR lastG qsG dsG
  simp only [e 0 (by decide), e 1 (by decide), e 2 (by decide), e 3 (by decide), e 4 (by decide), e 5 (by decide), e 6 (by decide), e 7 (by decide), e 8 (by decide), e 9 (by decide), e 10 (by decide), e 11 (by decide), e 12 (by decide), e 13 (by decide), e 14 (by decide), e 15 (by decide), e 16 (by decide), e 17 (by decide), e 18 (by decide), e 19 (by decide), e 20 (by decide), e 21 (by decide)]
theorem okGL_iff (n : Nat → Int) : okGL (gL n) ↔ chkR n = 0 := by
  unfold okGL
  rw [chkR_congr (n := nOfL (gL n)) (m := n) (gL_of (gL_len n))]
theorem okGL_sm {L : List Int} (h0 : L.length = 22) (h : okGL L) : smL L := by
  have := gL_sm h
  rwa [gL_of h0] at this
end Go.Proofs.YtpdhkgfdmpofiaaGreatDoor
