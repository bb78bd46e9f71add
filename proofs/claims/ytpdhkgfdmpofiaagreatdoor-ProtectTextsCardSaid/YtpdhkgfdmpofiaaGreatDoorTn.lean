/-
  The numbers of a guard: the reference's Numbers.
-/
import Derived.Test.YtpdhkgfdmpofiaaGreatDoorCk
import Derived.Test.YtpdhkgfdmpofiaaGreatDoorTl
set_option linter.unusedSimpArgs false
set_option linter.unusedVariables false
namespace Go.Proofs.YtpdhkgfdmpofiaaGreatDoor
open Sx Go.RowKit
def oneO (p : Nat) (o : Obj) : Nat → Option Obj := fun q => if q = p then some o else none
def rowO (v : Value) (rs : List Int) : Nat → Option (Value × List Int) := fun s => if s = 0 then some (v, rs) else none
def gObj (n : Nat → Int) : Obj := .cells #[.int .i64 (n 0), .int .i64 (n 1), .int .i64 (n 2), .int .i64 (n 3), .int .i64 (n 4), .int .i64 (n 5), .int .i64 (n 6), .int .i64 (n 7), .int .i64 (n 8), .int .i64 (n 9), .int .i64 (n 10), .int .i64 (n 11), .int .i64 (n 12), .int .i64 (n 13), .int .i64 (n 14), .int .i64 (n 15), .int .i64 (n 16), .int .i64 (n 17), .int .i64 (n 18), .int .i64 (n 19), .int .i64 (n 20), .int .i64 (n 21)] 25 (0, 0)
/-- A guard's box, and a row that is being made of its numbers. -/
structure GS (w : World) (n : Nat → Int) (v : Value) (k : Nat) (W : World) : Prop where
  mq : MQ w w.heap.size (oneO w.heap.size (gObj n)) (rowO v ((gL n).take k)) W
theorem guard_ne : 25 ≠ 2 := by decide
theorem gcells {W : World} {b : Nat} {n : Nat → Int} (h : W.heap[b]? = some (gObj n)) {k : Nat} (hk : k < 22) : W.cell? ⟨b, k, none⟩ = some (.int .i64 (n k)) := by
  have hc : k = 0 ∨ k = 1 ∨ k = 2 ∨ k = 3 ∨ k = 4 ∨ k = 5 ∨ k = 6 ∨ k = 7 ∨ k = 8 ∨ k = 9 ∨ k = 10 ∨ k = 11 ∨ k = 12 ∨ k = 13 ∨ k = 14 ∨ k = 15 ∨ k = 16 ∨ k = 17 ∨ k = 18 ∨ k = 19 ∨ k = 20 ∨ k = 21 := by omega
  rcases hc with rfl | rfl | rfl | rfl | rfl | rfl | rfl | rfl | rfl | rfl | rfl | rfl | rfl | rfl | rfl | rfl | rfl | rfl | rfl | rfl | rfl | rfl <;> exact blk_cell h rfl
theorem gcell_all {W : World} {b : Nat} {n : Nat → Int} (h : W.heap[b]? = some (gObj n)) : (W.cell? ⟨b, 0, none⟩ = some (.int .i64 (n 0)) ∧ W.cell? ⟨b, 1, none⟩ = some (.int .i64 (n 1)) ∧ W.cell? ⟨b, 2, none⟩ = some (.int .i64 (n 2)) ∧ W.cell? ⟨b, 3, none⟩ = some (.int .i64 (n 3)) ∧ W.cell? ⟨b, 4, none⟩ = some (.int .i64 (n 4)) ∧ W.cell? ⟨b, 5, none⟩ = some (.int .i64 (n 5)) ∧ W.cell? ⟨b, 6, none⟩ = some (.int .i64 (n 6)) ∧ W.cell? ⟨b, 7, none⟩ = some (.int .i64 (n 7)) ∧ W.cell? ⟨b, 8, none⟩ = some (.int .i64 (n 8)) ∧ W.cell? ⟨b, 9, none⟩ = some (.int .i64 (n 9)) ∧ W.cell? ⟨b, 10, none⟩ = some (.int .i64 (n 10)) ∧ W.cell? ⟨b, 11, none⟩ = some (.int .i64 (n 11)) ∧ W.cell? ⟨b, 12, none⟩ = some (.int .i64 (n 12)) ∧ W.cell? ⟨b, 13, none⟩ = some (.int .i64 (n 13)) ∧ W.cell? ⟨b, 14, none⟩ = some (.int .i64 (n 14)) ∧ W.cell? ⟨b, 15, none⟩ = some (.int .i64 (n 15)) ∧ W.cell? ⟨b, 16, none⟩ = some (.int .i64 (n 16)) ∧ W.cell? ⟨b, 17, none⟩ = some (.int .i64 (n 17)) ∧ W.cell? ⟨b, 18, none⟩ = some (.int .i64 (n 18)) ∧ W.cell? ⟨b, 19, none⟩ = some (.int .i64 (n 19)) ∧ W.cell? ⟨b, 20, none⟩ = some (.int .i64 (n 20)) ∧ W.cell? ⟨b, 21, none⟩ = some (.int .i64 (n 21))) ∧ b < W.heap.size :=
  ⟨⟨blk_cell h rfl, blk_cell h rfl, blk_cell h rfl, blk_cell h rfl, blk_cell h rfl, blk_cell h rfl, blk_cell h rfl, blk_cell h rfl, blk_cell h rfl, blk_cell h rfl, blk_cell h rfl, blk_cell h rfl, blk_cell h rfl, blk_cell h rfl, blk_cell h rfl, blk_cell h rfl, blk_cell h rfl, blk_cell h rfl, blk_cell h rfl, blk_cell h rfl, blk_cell h rfl, blk_cell h rfl⟩, blk_lt h⟩
theorem gL_take (n : Nat → Int) {j : Nat} (h : j < 22) : (gL n).take (j + 1) = (gL n).take j ++ [n j] := by
  have hc : j = 0 ∨ j = 1 ∨ j = 2 ∨ j = 3 ∨ j = 4 ∨ j = 5 ∨ j = 6 ∨ j = 7 ∨ j = 8 ∨ j = 9 ∨ j = 10 ∨ j = 11 ∨ j = 12 ∨ j = 13 ∨ j = 14 ∨ j = 15 ∨ j = 16 ∨ j = 17 ∨ j = 18 ∨ j = 19 ∨ j = 20 ∨ j = 21 := by omega
  rcases hc with rfl | rfl | rfl | rfl | rfl | rfl | rfl | rfl | rfl | rfl | rfl | rfl | rfl | rfl | rfl | rfl | rfl | rfl | rfl | rfl | rfl | rfl <;> rfl
section
variable {w W w2 w' : World} {n : Nat → Int} {v v' : Value} {k k' : Nat}
theorem GS.step (h : GS w n v k W) (hb : Below W.heap.size W w2) : GS w n v k w2 := ⟨h.mq.step hb⟩
theorem GS.bk (h : GS w n v k W) : W.heap[w.heap.size]? = some (gObj n) := h.mq.sb _ _ (if_pos rfl)
theorem GS.own (h : GS w n v k W) : IntOwn W w.heap.size v ((gL n).take k) := h.mq.own 0 _ _ rfl
theorem GS.own1 (h : GS w n v k W) (xs : List Int) (hl : xs.length ≤ maxLen) : IntOwn (W.alloc (.cells (flatI xs).toArray 2)) w.heap.size v ((gL n).take k) := (h.mq.freshN 1 xs hl).own 0 _ _ rfl
theorem GS.src1 (h : GS w n v k W) (xs : List Int) (hl : xs.length ≤ maxLen) : IntAt (some ⟨W.heap.size, 0, none⟩) xs (W.alloc (.cells (flatI xs).toArray 2)) := by
  obtain ⟨_, _, e, q⟩ := ((h.mq.freshN 1 xs hl).own 1 _ _ rfl).row
  cases e
  exact q
theorem GS.app (h : GS w n v k W) (xs : List Int) (hl : xs.length ≤ maxLen) (hk : (gL n).take k' = (gL n).take k ++ xs) (ho : IntOwn w' w.heap.size v' ((gL n).take k ++ xs)) (hg : (W.alloc (.cells (flatI xs).toArray 2)).grownBy w' v.ownBlock) (hat : v'.ownBlock = v.ownBlock ∨ v'.ownBlock = some (W.alloc (.cells (flatI xs).toArray 2)).heap.size) : GS w n v' k' w' := by
  rw [← hk] at ho
  refine ⟨((h.mq.freshN 1 xs hl).app 0 (v := v) (xs := (gL n).take k) rfl ho hg hat).less fun s p e => ?_⟩
  unfold rowO at e
  split at e
  · rename_i c
    subst c
    rw [updF_at]
    exact e
  · cases e
theorem GS.sz1 (h : GS w n v k W) (o : Obj) : w.heap.size ≤ (W.alloc o).heap.size := by
  have := h.mq.sz
  simp
  omega
theorem GS.make : GS w n (.slice (some ⟨w.heap.size + 1, 0, none⟩) 6 6) 6 ((w.alloc (gObj n)).alloc (.cells #[.int .i64 (n 0), .int .i64 (n 1), .int .i64 (n 2), .int .i64 (n 3), .int .i64 (n 4), .int .i64 (n 5)] 2)) := by
  have m0 : MQ w w.heap.size (fun _ => none) (fun _ => none) w := ⟨Nat.le_refl _, (fun _ _ e => by cases e), Below.refl _ _, Nat.le_refl _, (fun _ _ e => by cases e), (fun _ _ _ e => by cases e), (fun _ _ _ _ _ _ _ e => by cases e)⟩
  have m1 := (m0.obj (cs := #[.int .i64 (n 0), .int .i64 (n 1), .int .i64 (n 2), .int .i64 (n 3), .int .i64 (n 4), .int .i64 (n 5), .int .i64 (n 6), .int .i64 (n 7), .int .i64 (n 8), .int .i64 (n 9), .int .i64 (n 10), .int .i64 (n 11), .int .i64 (n 12), .int .i64 (n 13), .int .i64 (n 14), .int .i64 (n 15), .int .i64 (n 16), .int .i64 (n 17), .int .i64 (n 18), .int .i64 (n 19), .int .i64 (n 20), .int .i64 (n 21)]) guard_ne).freshN 0 [n 0, n 1, n 2, n 3, n 4, n 5] (by unfold maxLen; simp)
  simp only [World.size_alloc] at m1
  refine ⟨(m1.congr fun s => ?_).congrL fun p => ?_⟩
  · by_cases c : s = 0
    · subst c; rfl
    · rw [updF_ne c]
      unfold rowO
      rw [if_neg c]
  · by_cases c : p = w.heap.size
    · subst c
      rw [updF_at]
      exact if_pos rfl
    · rw [updF_ne c]
      exact if_neg c
end
set_option maxHeartbeats 2000000 in
set_option maxRecDepth 20000 in
theorem Numbers_any (n : Nat → Int) (w : World) : Calls Tryz.prog 19 #[.agg #[.int .i64 (n 0), .int .i64 (n 1), .int .i64 (n 2), .int .i64 (n 3), .int .i64 (n 4), .int .i64 (n 5), .int .i64 (n 6), .int .i64 (n 7), .int .i64 (n 8), .int .i64 (n 9), .int .i64 (n 10), .int .i64 (n 11), .int .i64 (n 12), .int .i64 (n 13), .int .i64 (n 14), .int .i64 (n 15), .int .i64 (n 16), .int .i64 (n 17), .int .i64 (n 18), .int .i64 (n 19), .int .i64 (n 20), .int .i64 (n 21)]] w fun e w' => ∃ v, e = .returned v ∧ IntRow v (gL n) w' ∧ Below w.heap.size w w' := by
  have P0 := Lib.hid (GS.make (w := w) (n := n))
  go_enter Tryz.func19, Tryz.ntmps19
  go_wp2_with fail

  go_loopw [3, 4] (fun v i wr => ∃ k : Nat, k ≤ 5 ∧ i = .int .i64 k ∧ Hid (GS w n v (6 + k) wr)) (fun _ i _ => 5 - (intOf i).toNat)
  case atStart => exact ⟨0, by omega, rfl, P0⟩
  case round =>
    obtain ⟨k, hk, rfl, P1⟩ := hrel
    clear P0
    have P0 := P1
    clear P1
    have i1 : (0 : Int) ≤ (k : Int) := by omega
    by_cases hlt : k < 5
    · have hlt2 : (k : Int) < 5 := by omega
      have c0 := gcells P0.out.bk (show 6 + k < 22 by omega)
      have l0 := blk_lt P0.out.bk
      have HT := Lib.hid (gL_take n (show 6 + k < 22 by omega))
      go_wp2_with (at_builtin; refine wpList_app_copy _ rfl (.tmp 23) (.tmp 28) rfl _ rfl w.heap.size _ (P0.out.own1 [n (6 + k)] (by unfold maxLen; simp)) (some ⟨_, 0, none⟩) [n (6 + k)] 1 rfl (P0.out.src1 [n (6 + k)] (by unfold maxLen; simp)) (by simp; omega) (P0.out.sz1 _) ?_; intro v2 w1 ho hg hat; have P1 := Lib.hid (P0.out.app (k' := 6 + k + 1) [n (6 + k)] (by unfold maxLen; simp) HT.out ho hg hat); clear ho hg hat c0 l0)
      go_roundw
      case rel => first | exact ⟨k + 1, by omega, by push_cast; rfl, P1⟩ | ((repeat apply Exists.intro); exact ⟨⟨k + 1, by omega, by push_cast; rfl, P1⟩, rfl⟩)
      case measure => (simp [intOf]; omega)
    · obtain rfl : k = 5 := by omega
      clear hlt hk i1
      replace P0 : Hid (GS w n u3 11 wr) := P0
      go_wp2_with fail
      go_loopw [3, 5] (fun v i wr => ∃ k : Nat, k ≤ 7 ∧ i = .int .i64 k ∧ Hid (GS w n v (11 + k) wr)) (fun _ i _ => 7 - (intOf i).toNat)
      case atStart => exact ⟨0, by omega, rfl, P0⟩
      case round =>
        obtain ⟨k, hk, rfl, P1⟩ := hrel
        clear P0
        have P0 := P1
        clear P1
        have i1 : (0 : Int) ≤ (k : Int) := by omega
        by_cases hlt : k < 7
        · have hlt2 : (k : Int) < 7 := by omega
          have c0 := gcells P0.out.bk (show 11 + k < 22 by omega)
          have l0 := blk_lt P0.out.bk
          have HT := Lib.hid (gL_take n (show 11 + k < 22 by omega))
          go_wp2_with (at_builtin; refine wpList_app_copy _ rfl (.tmp 34) (.tmp 39) rfl _ rfl w.heap.size _ (P0.out.own1 [n (11 + k)] (by unfold maxLen; simp)) (some ⟨_, 0, none⟩) [n (11 + k)] 1 rfl (P0.out.src1 [n (11 + k)] (by unfold maxLen; simp)) (by simp; omega) (P0.out.sz1 _) ?_; intro v2 w1 ho hg hat; have P1 := Lib.hid (P0.out.app (k' := 11 + k + 1) [n (11 + k)] (by unfold maxLen; simp) HT.out ho hg hat); clear ho hg hat c0 l0)
          go_roundw
          case rel => first | exact ⟨k + 1, by omega, by push_cast; rfl, P1⟩ | ((repeat apply Exists.intro); exact ⟨⟨k + 1, by omega, by push_cast; rfl, P1⟩, rfl⟩)
          case measure => (simp [intOf]; omega)
        · obtain rfl : k = 7 := by omega
          clear hlt hk i1
          replace P0 : Hid (GS w n u3 18 wr) := P0
          have g := fun (k : Nat) (hk : k < 22) => gcells P0.out.bk hk
          obtain ⟨c0, c1, c2, c3⟩ : wr.cell? ⟨w.heap.size, 18, none⟩ = some (.int .i64 (n 18)) ∧ wr.cell? ⟨w.heap.size, 19, none⟩ = some (.int .i64 (n 19)) ∧ wr.cell? ⟨w.heap.size, 20, none⟩ = some (.int .i64 (n 20)) ∧ wr.cell? ⟨w.heap.size, 21, none⟩ = some (.int .i64 (n 21)) := ⟨g 18 (by decide), g 19 (by decide), g 20 (by decide), g 21 (by decide)⟩
          have l0 := blk_lt P0.out.bk
          clear g
          go_wp2_with (at_builtin; refine wpList_app_copy _ rfl (.tmp 41) (.tmp 50) rfl _ rfl w.heap.size _ (P0.out.own1 [n 18, n 19, n 20, n 21] (by unfold maxLen; simp)) (some ⟨_, 0, none⟩) [n 18, n 19, n 20, n 21] 4 rfl (P0.out.src1 [n 18, n 19, n 20, n 21] (by unfold maxLen; simp)) (by simp; omega) (P0.out.sz1 _) ?_; intro v2 w1 ho hg hat; have P1 := Lib.hid (P0.out.app (k' := 22) [n 18, n 19, n 20, n 21] (by unfold maxLen; simp) rfl ho hg hat); clear ho hg hat c0 c1 c2 c3 l0)
          exact bodyPost_ret (v := v2) (by simp only [results, Tryz.results19]; go_simp) rfl ⟨v2, rfl, P1.out.own.row, P1.out.mq.bel⟩
end Go.Proofs.YtpdhkgfdmpofiaaGreatDoor
