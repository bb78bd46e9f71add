/-
 The examples of the statements about package passport: works answers true.
-/
import Derived.Test.YtmpilgkfbibhlaaGreatDoorG12R
import Derived.Test.YtmpilgkfbibhlaaGreatDoorProg
import Derived.WalkKit
import Derived.Test.YtmpilgkfbibhlaaGreatDoorG0R
import Derived.Below
import Derived.WalkLawsBesides
import Derived.Laws.Tables
import Derived.Laws.Slices
import Derived.Laws.AppendOwn
import Derived.Laws.OwnMore
import Derived.ChangeKeysEq
import Derived.LoopN
import Derived.ProofKit
import Derived.OpenShut
import Derived.WideShapes
import Derived.KernelRfl
import Derived.DataReads
import Derived.Deep.Slices
import Derived.Test.YtmpilgkfbibhlaaGreatDoorG11R
import Derived.Lib.ItoaNum
import Derived.Lib.ItoaMem
import Derived.Lib.Join
set_option linter.unusedSimpArgs false
set_option linter.unusedVariables false
namespace Go.Proofs.YtmpilgkfbibhlaaGreatDoor
open Sx Go.RowKit
theorem glob_step {w w' : World} (h : Glob0 w) (hb : Below w.heap.size w w') : Glob0 w' :=
 ⟨h.1.kept fun g hg => hb.block g (h.2 g hg).2, fun g hg => ⟨by have := (h.2 g hg).2; have := hb.size; omega, Nat.lt_of_lt_of_le (h.2 g hg).2 hb.size⟩⟩
end Go.Proofs.YtmpilgkfbibhlaaGreatDoor
namespace Go.Proofs.YtmpilgkfbibhlaaGreatDoor
open Sx Go.RowKit
def chkB (least fa fb t a b : Int) (p q : Bool) : Bool :=
 bif !(bif decide (t ≥ 0) then decide (t ≤ 1099511627776) else false) then true else bif decide (a < least) then true else bif decide (a > fa) then true else bif decide (b < 0) then true else bif decide (b > fb) then true else bif !p then true else !q
end Go.Proofs.YtmpilgkfbibhlaaGreatDoor
namespace Go.Proofs.YtmpilgkfbibhlaaGreatDoor
/-! Decimal digits. -/
theorem dig_nat {u : Nat} (h : u < 10) : (UInt8.ofNat (48 + u)).toNat = 48 + u := by
 simp only [UInt8.toNat_ofNat']
 omega
theorem dec_step {u : Nat} (h : ¬ u < 10) : Lib.decDigits u = Lib.decDigits (u / 10) ++ [UInt8.ofNat (48 + u % 10)] := by
 rw [Lib.decDigits, dif_neg h]
theorem dec_ne (u : Nat) : Lib.decDigits u ≠ [] := by
 by_cases h : u < 10
 ·rw [Lib.decDigits_one h]; simp
 ·rw [dec_step h]; simp
theorem dec_plain (u : Nat) : ∀ c ∈ Lib.decDigits u, 48 ≤ c.toNat ∧ c.toNat ≤ 57 := by
 induction u using Nat.strongRecOn with
 | ind u ih =>
  intro c hc
  by_cases h : u < 10
  ·rw [Lib.decDigits_one h] at hc
   obtain rfl := List.mem_singleton.1 hc
   rw [dig_nat h]; omega
  ·rw [dec_step h] at hc
   rcases List.mem_append.1 hc with hc | hc
   ·exact ih (u / 10) (by omega) c hc
   ·obtain rfl := List.mem_singleton.1 hc
    rw [dig_nat (by omega)]; omega
theorem itoa_pos {n : Int} (h : 0 ≤ n) : Lib.itoa n = Lib.decDigits n.toNat := by
 obtain ⟨u, rfl⟩ := Int.eq_ofNat_of_zero_le h
 exact Lib.itoa_nonneg u
def Sp (l : List UInt8) : Prop := ∀ c ∈ l, c.toNat ≠ 32
theorem itoa_sp {n : Int} (h : 0 ≤ n) : Sp (Lib.itoa n) := fun c hc => by
 rw [itoa_pos h] at hc
 have := dec_plain _ c hc
 omega
/-! Texts joined by a space. -/
/-! Events. -/
structure Ev where
 k : Int
 t : Int
 a : Int
 b : Int
 nm : List UInt8
 ot : List UInt8
structure EvOk (e : Ev) : Prop where
 k : 1 ≤ e.k ∧ e.k ≤ 9
 t : 0 ≤ e.t ∧ e.t ≤ 1099511627776
 a : 0 ≤ e.a ∧ e.a ≤ 1099511627776
 b : 0 ≤ e.b ∧ e.b ≤ 1099511627776
 a0 : 5 ≤ e.k → e.a = 0
 b0 : 3 ≤ e.k → e.b = 0
 nm : Sp e.nm
 ot : Sp e.ot
 nm0 : (e.k = 2 ∨ e.k = 3 ∨ e.k = 4 ∨ e.k = 9) → e.nm = []
 nm1 : (e.k = 1 ∨ e.k = 5 ∨ e.k = 6 ∨ e.k = 7 ∨ e.k = 8) → e.nm ≠ []
 ot0 : (e.k ≠ 5 ∧ e.k ≠ 6) → e.ot = []
 ot1 : (e.k = 5 ∨ e.k = 6) → e.ot ≠ []
end Go.Proofs.YtmpilgkfbibhlaaGreatDoor
