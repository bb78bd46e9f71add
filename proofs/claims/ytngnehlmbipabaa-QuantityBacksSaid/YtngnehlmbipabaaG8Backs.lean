/-
  What a region keeps: a list of cells below a bound, and what was in memory.
-/
import Derived.Test.YtngnehlmbipabaaG6Backs
import Derived.Test.YtngnehlmbipabaaG5Backs
import Derived.Deep.DeepCutAuto
import Derived.Test.YtngnehlmbipabaaG7Backs
import Derived.Test.YtngnehlmbipabaaG4Backs
import Derived.RangeFuncNested
import Derived.RangeFuncBound
import Derived.RangeFuncCalls
import Derived.RangeFuncLeaves
import Derived.Shelf.Abstract
import Derived.WalkKit
import Derived.OwnWalkIn
import Derived.TacticsInMore
import Derived.LoopNIn
import Derived.LoopIn
set_option linter.unusedSimpArgs false
set_option linter.unusedVariables false
namespace Go.Proofs.Ytngnehlmbipabaa
open Go.RowKit

/-- The cells of l lie in blocks below B, and hold what l says; nothing that was in memory at w has changed. -/
def Cs (w : World) (B : Nat) (l : List (Nat × Nat × Value)) (W : World) : Prop := (∀ c ∈ l, W.cell? ⟨c.1, c.2.1, none⟩ = some c.2.2 ∧ c.1 < B) ∧ w.heap.size ≤ B ∧ Below w.heap.size w W
theorem Cs.at_ {w W : World} {B p o : Nat} {v : Value} {l : List (Nat × Nat × Value)} (h : Cs w B l W) (hm : (p, o, v) ∈ l) : W.cell? ⟨p, o, none⟩ = some v := (h.1 _ hm).1
theorem Cs.lt {w W : World} {B p o : Nat} {v : Value} {l : List (Nat × Nat × Value)} (h : Cs w B l W) (hm : (p, o, v) ∈ l) : p < B := (h.1 _ hm).2
theorem Cs.bel {w W : World} {B : Nat} {l : List (Nat × Nat × Value)} (h : Cs w B l W) : Below w.heap.size w W := h.2.2
theorem Cs.step {w W w2 : World} {B : Nat} {l : List (Nat × Nat × Value)} (h : Cs w B l W) (hb : Below W.heap.size W w2) : Cs w B l w2 :=
  ⟨fun c hc => ⟨cell_step (h.1 c hc).1 hb, (h.1 c hc).2⟩, h.2.1, bStep h.2.2 hb⟩
theorem Cs.alloc {w W : World} {B : Nat} {l : List (Nat × Nat × Value)} {o : Obj} (h : Cs w B l W) : Cs w B l (W.alloc o) := h.step ((Below.refl _ _).alloc (Nat.le_refl _) _)
theorem Cs.drew {w W : World} {B : Nat} {l : List (Nat × Nat × Value)} (h : Cs w B l W) : Cs w B l W.drew := h.step (Below.refl _ _).drew
theorem Cs.drewN {w W : World} {B n : Nat} {l : List (Nat × Nat × Value)} (h : Cs w B l W) : Cs w B l (W.drewN n) := h.step (bDrewN (Below.refl _ _))
theorem Cs.set {w W : World} {B : Nat} {l : List (Nat × Nat × Value)} {r o : Nat} {v : Value} (h : Cs w B l W) (hr : B ≤ r) : Cs w B l (W.setCell ⟨r, o, none⟩ v) :=
  ⟨fun c hc => ⟨cell_set_far (h.1 c hc).1 (by have := (h.1 c hc).2; omega), (h.1 c hc).2⟩, h.2.1, bSet h.2.2 (show w.heap.size ≤ r by have := h.2.1; omega) _⟩
theorem Cs.nil {w W : World} {B : Nat} (h1 : w.heap.size ≤ B) (h2 : Below w.heap.size w W) : Cs w B [] W := ⟨fun _ h => (by cases h), h1, h2⟩
theorem Cs.cons {w W : World} {B p o : Nat} {v : Value} {l : List (Nat × Nat × Value)} (h : Cs w B l W) (hc : W.cell? ⟨p, o, none⟩ = some v) (hp : p < B) : Cs w B ((p, o, v) :: l) W := by
  refine ⟨fun c hm => ?_, h.2⟩
  rcases List.mem_cons.1 hm with rfl | hm
  · exact ⟨hc, hp⟩
  · exact h.1 c hm
theorem Cs.sub {w W : World} {B B2 : Nat} {l m : List (Nat × Nat × Value)} (h : Cs w B l W) (hs : ∀ c ∈ m, c ∈ l) (hB : B ≤ B2) : Cs w B2 m W :=
  ⟨fun c hm => ⟨(h.1 c (hs c hm)).1, Nat.lt_of_lt_of_le (h.1 c (hs c hm)).2 hB⟩, Nat.le_trans h.2.1 hB, h.2.2⟩
theorem Cs.grow {w W : World} {B : Nat} {l : List (Nat × Nat × Value)} (h : Cs w B l W) : Cs w W.heap.size l W :=
  ⟨fun c hc => ⟨(h.1 c hc).1, cell_lt (h.1 c hc).1⟩, h.2.2.size, h.2.2⟩

end Go.Proofs.Ytngnehlmbipabaa

/-
  The walk of pieces: the iterator over a curve's pieces.
-/
set_option linter.unusedSimpArgs false
set_option linter.unusedVariables false
namespace Go.Proofs.Ytngnehlmbipabaa
open Go.RowKit Go.Shelf
attribute [local go_sem] Oper.semAt_some

/-- What pieces hands to the loop: the number and the piece. -/
def pcs (xs ys : List Int) (k : Nat) : Array Value := #[.int .i64 k, .agg #[.int .i64 (xs.getD k 0), .int .i64 (ys.getD k 0), .int .i64 (xs.getD (k + 1) 0 - xs.getD k 0), .int .i64 (ys.getD (k + 1) 0 - ys.getD k 0)]]

set_option maxRecDepth 100000 in
set_option maxHeartbeats 8000000 in
theorem pieces1_in (F : Fence) (n : Nat) (hf : F.fn 83) (hro : F.round = none) (hn : 1 ≤ n) (l Bs n₀ bu ou cu bv ov cv len : Nat) (xs ys : List Int) (h2 : 2 ≤ len) (hlen : len ≤ 1000000) (hB : Bs < n₀) (hbu : bu < n₀) (hbv : bv < n₀)
    (hq : ∀ k, -1099511627776 ≤ xs.getD k 0 ∧ xs.getD k 0 ≤ 1099511627776 ∧ -1099511627776 ≤ ys.getD k 0 ∧ ys.getD k 0 ≤ 1099511627776) (J Jx : List Nat → World → Prop)
    (hY : ∀ pre x W, J pre W → pre.length < len - 1 → YieldAt F (n - 1) Try.prog l (pcs xs ys x) W fun e W' =>
      (e = .returned (.bool true) ∧ J (pre ++ [x]) W' ∧ Below n₀ W W') ∨ (e = .returned (.bool false) ∧ Jx (pre ++ [x]) W')) (hJd : ∀ pre W, J pre W → J pre W.drew)
    (W : World) (hX : W.cell? ⟨Bs, 0, none⟩ = some (.slice (some ⟨bu, ou, none⟩) len cu)) (hYs : W.cell? ⟨Bs, 1, none⟩ = some (.slice (some ⟨bv, ov, none⟩) len cv))
    (hcx : ∀ k, k < len → W.cell? ⟨bu, ou + k, none⟩ = some (.int .i64 (xs.getD k 0))) (hcy : ∀ k, k < len → W.cell? ⟨bv, ov + k, none⟩ = some (.int .i64 (ys.getD k 0))) (h0 : J [] W) :
    CallsIn F n Try.prog 83 #[.func (.yield l) #[] #[], .pointer (some ⟨Bs, 0, none⟩)] W fun e W' => (∃ v, e = .returned v) ∧
      ((∃ zs, zs = List.range (len - 1) ∧ J zs W') ∨ (∃ pre, (∃ k, k ≤ len - 1 ∧ pre = List.range k) ∧ Jx pre W')) := by
  refine callsIn_of_wp Try.func83 rfl hf ?_ hro
  simp only [Try.ntmps83, List.size_toArray, List.length_cons, List.length_nil, Nat.reduceAdd, Nat.reduceSub, Array.replicate_succ, Array.replicate_zero, List.push_toArray, List.append_toArray, List.nil_append, List.cons_append]
  have e1 : ((len : Int) - 1) = ((len - 1 : Nat) : Int) := by omega
  gi_wp2
  gi_loopw [8] (fun i wr => ∃ k : Nat, k ≤ len - 1 ∧ i = .int .i64 k ∧ J (List.range k) wr ∧ Below n₀ W wr) (fun i _ => len - 1 - (intOf i).toNat)
  case atStart => exact ⟨0, Nat.zero_le _, rfl, h0, Below.refl _ _⟩
  case round =>
    obtain ⟨k, hk, rfl, hJs, hnx⟩ := hrel
    by_cases hlt : k < len - 1
    · obtain ⟨fn, tmps, assign, body, hy, hR⟩ := hY _ k wr.drew (hJd _ _ hJs) (by rw [List.length_range]; exact hlt)
      dsimp only [pcs] at hy
      have c0 := (hnx.cell (p := ⟨Bs, 0, none⟩) hB).trans hX
      have c1 := (hnx.cell (p := ⟨Bs, 1, none⟩) hB).trans hYs
      have c2 := (hnx.cell (p := ⟨bu, ou + k, none⟩) hbu).trans (hcx k (by omega))
      have c3 := (hnx.cell (p := ⟨bv, ov + k, none⟩) hbv).trans (hcy k (by omega))
      have c4 := (hnx.cell (p := ⟨bu, ou + (k + 1), none⟩) hbu).trans (hcx (k + 1) (by omega))
      have c5 := (hnx.cell (p := ⟨bv, ov + (k + 1), none⟩) hbv).trans (hcy (k + 1) (by omega))
      obtain ⟨q1, q2, q3, q4⟩ := hq k
      obtain ⟨q5, q6, q7, q8⟩ := hq (k + 1)
      clear hcx hcy hX hYs hq
      generalize xs.getD k 0 = X0 at *
      generalize ys.getD k 0 = Y0 at *
      generalize xs.getD (k + 1) 0 = X1 at *
      generalize ys.getD (k + 1) 0 = Y1 at *
      have hk1 : k < len := by omega
      have hk2 : k + 1 < len := by omega
      gi_wp2
      refine regionIn_vals 37 [(11, (.func (.yield l) #[] #[])), (12, (.int .i64 k)), (13, (.pointer (some ⟨Bs, 0, none⟩))), (14, (.slice (some ⟨bu, ou, none⟩) len cu)), (15, (.int .i64 k)), (16, (.pointer (some ⟨bu, ou + k, none⟩))), (17, (.int .i64 X0)), (18, (.pointer (some ⟨Bs, 1, none⟩))), (19, (.slice (some ⟨bv, ov, none⟩) len cv)), (20, (.int .i64 k)), (21, (.pointer (some ⟨bv, ov + k, none⟩))), (22, (.int .i64 Y0)), (23, (.pointer (some ⟨Bs, 0, none⟩))), (24, (.slice (some ⟨bu, ou, none⟩) len cu)), (25, (.int .i64 k)), (26, (.int .i64 (k + 1))), (27, (.pointer (some ⟨bu, ou + (k + 1), none⟩))), (28, (.int .i64 X1)), (29, (.pointer (some ⟨Bs, 0, none⟩))), (30, (.slice (some ⟨bu, ou, none⟩) len cu)), (31, (.int .i64 k)), (32, (.pointer (some ⟨bu, ou + k, none⟩))), (33, (.int .i64 X0)), (34, (.int .i64 (X1 - X0))), (35, (.pointer (some ⟨Bs, 1, none⟩))), (36, (.slice (some ⟨bv, ov, none⟩) len cv)), (37, (.int .i64 k)), (38, (.int .i64 (k + 1))), (39, (.pointer (some ⟨bv, ov + (k + 1), none⟩))), (40, (.int .i64 Y1)), (41, (.pointer (some ⟨Bs, 1, none⟩))), (42, (.slice (some ⟨bv, ov, none⟩) len cv)), (43, (.int .i64 k)), (44, (.pointer (some ⟨bv, ov + k, none⟩))), (45, (.int .i64 Y0)), (46, (.int .i64 (Y1 - Y0))), (47, (.agg #[.int .i64 X0, .int .i64 Y0, .int .i64 (X1 - X0), .int .i64 (Y1 - Y0)]))] hro (by kernel_rfl) (by kernel_rfl) rfl (by kernel_rfl) (by kernel_rfl) (by kernel_rfl) (by rfl) ?vals ?tail
      case vals =>
        simp only [updAll, Act.put, List.setIfInBounds_toArray, List.set_cons_zero, List.set_cons_succ, List.take_succ_cons, List.take_zero, AllVals]
        refine ⟨?_, ?_, ?_, ?_, ?_, ?_, ?_, ?_, ?_, ?_, ?_, ?_, ?_, ?_, ?_, ?_, ?_, ?_, ?_, ?_, ?_, ?_, ?_, ?_, ?_, ?_, ?_, ?_, ?_, ?_, ?_, ?_, ?_, ?_, ?_, ?_, ?_, trivial⟩
        all_goals (refine ⟨_, _, rfl, rfl, ?_, ?_⟩ <;> go_simp <;> (first | exact Go.IntWalk.i64_in _ ⟨by omega, by omega⟩ | (intro h; exfalso; omega)))
      case tail =>
        simp only [updAll, Act.put, List.setIfInBounds_toArray, List.set_cons_zero, List.set_cons_succ]
        refine wpOpIn_plain rfl rfl ?_
        gi_wp2
        refine hR.mono ?_
        rintro e W3 (⟨rfl, hJ3, hk3⟩ | ⟨rfl, hJx3⟩)
        · refine wpOpIn_plain rfl rfl ?_
          gi_wp2
          go_roundw
          case rel => exact ⟨k + 1, by omega, by go_num, by rw [List.range_succ]; exact hJ3, hnx.trans ((show Below n₀ wr wr.drew from (Below.refl n₀ wr).drew).trans hk3)⟩
          case measure => (simp [intOf]; omega)
        · refine wpOpIn_plain rfl rfl ?_
          gi_wp2
          refine bodyPost_ret (results_none rfl _ _ _) rfl ?_
          exact ⟨⟨_, rfl⟩, .inr ⟨_, ⟨k + 1, by omega, List.range_succ.symm⟩, hJx3⟩⟩
    · obtain rfl : k = len - 1 := by omega
      gi_wp2
      go_end0
      exact ⟨⟨_, rfl⟩, .inl ⟨_, rfl, hJs⟩⟩

end Go.Proofs.Ytngnehlmbipabaa
