/-
 Rows of numbers that a function has made itself by append; an append of a row that may be nil.
-/
import Derived.Test.YtmpilgkfbibhlaaGreatDoorG9R
import Derived.OwnWalk
set_option linter.unusedSimpArgs false
set_option linter.unusedVariables false
namespace Go.Proofs.YtmpilgkfbibhlaaGreatDoor
open Go.RowKit
/-! the reference's list of bytes -/
def pad (m : List Nat) (j : Nat) : List Nat := m ++ 1 :: List.replicate j 0
end Go.Proofs.YtmpilgkfbibhlaaGreatDoor
namespace Go.Proofs.YtmpilgkfbibhlaaGreatDoor
open Go.RowKit
def BytV (a : Option Addr) (m : List Nat) (W : World) : Prop := m ≠ [] → ∃ b off, a = some ⟨b, off, none⟩ ∧ b < W.heap.size ∧ ∀ k, k < m.length → W.cell? ⟨b, off + k, none⟩ = some (.int .u8 (m.getD k 0 : Nat))
theorem BytV.step {a : Option Addr} {m : List Nat} {W w2 : World} (h : BytV a m W) (hb : Below W.heap.size W w2) : BytV a m w2 := fun hn => by
 obtain ⟨b, off, rfl, h1, h2⟩ := h hn
 exact ⟨b, off, rfl, Nat.lt_of_lt_of_le h1 hb.size, fun k hk => cell_step (h2 k hk) hb⟩
end Go.Proofs.YtmpilgkfbibhlaaGreatDoor
namespace Go.Proofs.YtmpilgkfbibhlaaGreatDoor
open Go.RowKit
def prim : Nat → Nat
 | 0 => 257
 | 1 => 65537
 | _ => 2147483647
theorem prim_bd (i : Nat) : 257 ≤ prim i ∧ prim i < 2147483648 := by
 unfold prim
 split <;> decide
def fi (n : Int) : Option Nat := if 0 ≤ n ∧ n < 3 then some n.toNat else none
theorem fi_cases (n : Int) : ((n < 0 ∨ 3 ≤ n) ∧ fi n = none) ∨ ∃ i : Nat, i < 3 ∧ n = i ∧ fi n = some i := by
 unfold fi
 by_cases h : 0 ≤ n ∧ n < 3
 ·right
  rw [if_pos h]
  exact ⟨n.toNat, by omega, by omega, rfl⟩
 ·left
  rw [if_neg h]
  exact ⟨by omega, rfl⟩
def digR (n : Int) (x : Nat) (m : List Nat) : Nat × Int := match fi n with
 | none => (0, 2)
 | some i => if 1000 < m.length then (0, 7) else if x < 1 ∨ prim i ≤ x then (0, 3) else (dig (prim i) (i + 1) x m, 0)
theorem fieldOf_none (n : Int) (hn : n < 0 ∨ 3 ≤ n) (w : World) : Calls Tryz.prog 86 #[.int .i64 n] w fun e w' => e = .returned (.pointer none) ∧ Below w.heap.size w w' := by
 rcases hn with hn | hn
 all_goals
  go_enter Tryz.func86, Tryz.ntmps86
  go_wp2
  go_ret
  exact ⟨rfl, (by repeat' (first | exact Below.refl _ _ | assumption | apply bDrewN | apply bDrew | apply bAlloc | (refine bSet ?_ ?_ _) | (refine bStep ?_ (by assumption)) | omega | (simp <;> omega)))⟩
theorem fieldOf_some (i : Nat) (hi : i < 3) (w : World) : Calls Tryz.prog 86 #[.int .i64 i] w fun e w' => ∃ B off, e = .returned (.pointer (some ⟨B, off, none⟩)) ∧ w.heap.size ≤ B ∧ B < w'.heap.size ∧
  w'.cell? ⟨B, off, none⟩ = some (.int .u64 (prim i)) ∧ w'.cell? ⟨B, off + 1, none⟩ = some (.int .i64 (i + 1 : Nat)) ∧ Below w.heap.size w w' := by
 have hc : i = 0 ∨ i = 1 ∨ i = 2 := by omega
 rcases hc with rfl | rfl | rfl
 all_goals
  go_enter Tryz.func86, Tryz.ntmps86
  go_wp2
  go_ret
  refine ⟨_, _, rfl, Nat.le_refl _, by simp, ?_, ?_, (by repeat' (first | exact Below.refl _ _ | assumption | apply bDrewN | apply bDrew | apply bAlloc | (refine bSet ?_ ?_ _) | (refine bStep ?_ (by assumption)) | omega | (simp <;> omega)))⟩ <;> (first | (go_simp; done) | (go_simp; rfl) | trace_state)
end Go.Proofs.YtmpilgkfbibhlaaGreatDoor
