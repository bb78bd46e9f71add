/-
  The walk of CheckCurve.
-/
import Derived.Test.YtkldlmbccdfjdaaPc
import Derived.Test.YtkldlmbccdfjdaaOwn
set_option linter.unusedSimpArgs false
set_option linter.unusedVariables false
namespace Go.Proofs.Ytkldlmbccdfjdaa
open Go.RowKit Go.Shelf

theorem strange_any (x : Int) (w : World) : Calls Try.prog 50 #[.int .i64 x] w fun e w' => e = .returned (.bool (!isQ x)) ∧ w = w' := by
  have C := Lib.hid (fun w => is_any x w)
  generalize isQ x = r at *
  go_enter Try.func50, Try.ntmps50
  go_wp2_with (go_at_call 39; refine (C.out _).mono ?_; rintro e w' ⟨rfl, rfl⟩)
  go_ret
  exact ⟨rfl, rfl⟩

set_option maxHeartbeats 400000 in
theorem indexFunc_ints (xs : List Int) (a : Option Addr) (c : Nat) (w : World) (hl : xs.length ≤ 1000000) (hA : IntAt a xs w) :
    Calls Try.prog 82 #[.slice a xs.length c, .func (.func 50) #[] #[]] w fun e w' => (∃ r : Int, e = .returned (.int .i64 r) ∧ (decide (0 ≤ r) = !(xs.all isQ))) ∧ w = w' := by
  have HA := Lib.hid hA
  clear hA
  go_enter Try.func82, Try.ntmps82
  go_wp2
  go_loopw [8] (fun i wr => ∃ k : Nat, k ≤ xs.length ∧ i = .int .i64 k ∧ wr = w ∧ Hid ((xs.take k).all isQ = true)) (fun i _ => xs.length - (intOf i).toNat)
  case atStart => exact ⟨0, by omega, rfl, rfl, by simp [Hid]⟩
  case round =>
    obtain ⟨k, hk, rfl, rfl, HQ⟩ := hrel
    by_cases hlt : k < xs.length
    · obtain ⟨b, off, rfl, g1⟩ := HA.out.at_ hlt
      have HS : Hid (isQ xs[k] = true → (xs.take (k + 1)).all isQ = true) := by
        intro h
        rw [List.take_succ_eq_append_getElem hlt, List.all_append, HQ.out]
        simp [h]
      have HN : Hid (isQ xs[k] = false → xs.all isQ = false) := by
        intro h
        rw [List.all_eq_false]
        exact ⟨xs[k], List.getElem_mem _, by simp [h]⟩
      have C := Lib.hid (fun w => strange_any xs[k] w)
      generalize isQ xs[k] = q at *
      generalize xs[k] = x at *
      clear HQ HA
      cases q
      all_goals
        go_wp2_with (go_at_call 50; refine (C.out _).mono ?_; rintro e w' ⟨rfl, rfl⟩)
      · go_ret
        exact ⟨⟨k, rfl, by rw [HN.out (by first | rfl | trivial)]; simp⟩, by first | rfl | trivial⟩
      · go_roundw
        case rel => exact ⟨k + 1, by omega, by go_num, by first | rfl | trivial, HS.out (by first | rfl | trivial)⟩
        case measure => (simp [intOf]; omega)
    · go_wp2
      go_ret
      obtain rfl : k = xs.length := by omega
      have := HQ.out
      rw [List.take_length] at this
      exact ⟨⟨-1, rfl, by simp [this]⟩, rfl⟩

set_option maxHeartbeats 400000 in
theorem containsFunc_ints (xs : List Int) (a : Option Addr) (c : Nat) (w : World) (hl : xs.length ≤ 1000000) (hA : IntAt a xs w) :
    Calls Try.prog 51 #[.slice a xs.length c, .func (.func 50) #[] #[]] w fun e w' => e = .returned (.bool (!(xs.all isQ))) ∧ w = w' := by
  have H := Lib.hid (fun w hA => indexFunc_ints xs a c w hl hA)
  have HA := Lib.hid hA
  clear hA
  go_enter Try.func51, Try.ntmps51
  go_wp2_with (go_at_call 82; refine (H.out _ HA.out).mono ?_; rintro e w' ⟨⟨r, rfl, hr⟩, rfl⟩)
  go_ret
  exact ⟨by simp [hr], rfl⟩

/-- What CheckCurve returns. -/
def preC (xs ys : List Int) : Prop := xs.length = ys.length ∧ 2 ≤ xs.length ∧ xs.all isQ = true ∧ ys.all isQ = true
def rising (xs ys : List Int) (k : Nat) : Prop := xs.getD k 0 < xs.getD (k + 1) 0 ∧ ys.getD k 0 ≤ ys.getD (k + 1) 0
instance (xs ys : List Int) : Decidable (preC xs ys) := by unfold preC; infer_instance
instance (xs ys : List Int) (k : Nat) : Decidable (rising xs ys k) := by unfold rising; infer_instance
def goodC (xs ys : List Int) : Prop := preC xs ys ∧ ∀ k, k < xs.length - 1 → rising xs ys k
instance (xs ys : List Int) : Decidable (goodC xs ys) := by unfold goodC; infer_instance
def checkC (xs ys : List Int) : Int := if 64 < max xs.length ys.length then 6 else if goodC xs ys then 0 else 2
theorem allQ_getD {xs : List Int} (h : xs.all isQ = true) (k : Nat) : -1099511627776 ≤ xs.getD k 0 ∧ xs.getD k 0 ≤ 1099511627776 := by
  rw [List.getD_eq_getElem?_getD]
  cases hx : xs[k]? with
  | none => simp
  | some x =>
    have := (List.all_eq_true.1 h) x (List.mem_of_getElem? hx)
    simpa using (isQ_iff x).1 this

/-- pieces: the curve is boxed, and the iterator holds on to the box. -/
theorem pieces_in (F : Fence) (n : Nat) (hf : F.fn 52) (hro : F.round = none) (sx sy : Value) (w : World) (h1 : sx.cells.size = 1) (h2 : sy.cells.size = 1) :
    CallsIn F n Try.prog 52 #[.agg #[sx, sy]] w fun e w' => e = .returned (.func (.func 83) #[] #[.pointer (some ⟨w.heap.size, 0, none⟩)]) ∧ w' = w.alloc (.cells #[sx, sy] 24) := by
  refine callsIn_of_wp Try.func52 rfl hf ?_ hro
  simp only [Try.ntmps52, List.size_toArray, List.length_cons, List.length_nil, Nat.reduceAdd, Nat.reduceSub, Array.replicate_succ, Array.replicate_zero, List.push_toArray, List.append_toArray, List.nil_append, List.cons_append]
  gi_wp2
  go_ret
  exact ⟨rfl, rfl⟩

theorem grown_drew (W : World) : W.grownBy W.drew none := ⟨rfl, rfl, rfl, Nat.le_refl _, fun _ _ _ => rfl⟩
theorem pieces_stops (F : Fence) (n : Nat) (hf : F.fn 83) (hro : F.round = none) (hn : 1 ≤ n) (Bs n₀ bu ou cu bv ov cv len : Nat) (xs ys : List Int) (h2 : 2 ≤ len) (hlen : len ≤ 1000000) (hB : Bs < n₀) (hbu : bu < n₀) (hbv : bv < n₀)
    (hq : ∀ k, -1099511627776 ≤ xs.getD k 0 ∧ xs.getD k 0 ≤ 1099511627776 ∧ -1099511627776 ≤ ys.getD k 0 ∧ ys.getD k 0 ≤ 1099511627776) (w : World) (hnw : n₀ ≤ w.heap.size)
    (hX : w.cell? ⟨Bs, 0, none⟩ = some (.slice (some ⟨bu, ou, none⟩) len cu)) (hY : w.cell? ⟨Bs, 1, none⟩ = some (.slice (some ⟨bv, ov, none⟩) len cv))
    (hcx : ∀ k, k < len → w.cell? ⟨bu, ou + k, none⟩ = some (.int .i64 (xs.getD k 0))) (hcy : ∀ k, k < len → w.cell? ⟨bv, ov + k, none⟩ = some (.int .i64 (ys.getD k 0))) :
    SeqStopsK F n Try.prog 83 #[.pointer (some ⟨Bs, 0, none⟩)] (pcs xs ys) (Below n₀) (fun l => l = List.range (len - 1)) (fun pre => ∃ k, k ≤ len - 1 ∧ pre = List.range k) (len - 1) w := fun l J Jx W hW hJ _ hYY h0 => by
  have hW0 := hW.mono hnw
  exact pieces1_in F n hf hro hn l Bs n₀ bu ou cu bv ov cv len xs ys h2 hlen hB hbu hbv hq J Jx hYY (fun pre W1 h => hJ pre W1 W1.drew none h (grown_drew W1) (fun r e => by cases e)) W
    ((hW0.cell (p := ⟨Bs, 0, none⟩) hB).trans hX) ((hW0.cell (p := ⟨Bs, 1, none⟩) hB).trans hY) (fun k hk => (hW0.cell (p := ⟨bu, ou + k, none⟩) hbu).trans (hcx k hk)) (fun k hk => (hW0.cell (p := ⟨bv, ov + k, none⟩) hbv).trans (hcy k hk)) h0

end Go.Proofs.Ytkldlmbccdfjdaa
