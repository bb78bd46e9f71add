/-
  strconv.FormatInt, strconv.ParseInt.
-/
import Derived.Test.YtpdhkgfdmpofiaaGreatDoorB2
import Derived.Test.YtpdhkgfdmpofiaaGreatDoorShl
import Derived.Test.YtpdhkgfdmpofiaaGreatDoorSgl
import Derived.Test.YtpdhkgfdmpofiaaGreatDoorQa
import Derived.Laws.IdiomStrings
import Derived.Lib.AtoiErrMem
import Derived.Lib.AppendIntMem

set_option linter.unusedSimpArgs false
set_option linter.unusedVariables false
namespace Go.Proofs.YtpdhkgfdmpofiaaGreatDoor
open Sx Go.RowKit
theorem bAl'' {W : World} {o : Obj} : Below W.heap.size W (W.alloc o) := (Below.refl _ _).alloc (Nat.le_refl _) _
theorem bdrewN (w : World) (n : Nat) : Below w.heap.size w (w.drewN n) := by
  repeat' (first | exact Below.refl _ _ | apply bDrewN)
theorem ba_inj {a b : ByteArray} (h : a.data.toList = b.data.toList) : a = b := by
  obtain ⟨⟨x⟩⟩ := a
  obtain ⟨⟨y⟩⟩ := b
  have h' : x = y := h
  rw [h']
theorem ba_of {s : ByteArray} {l : List UInt8} (h : l = s.data.toList) : s = ⟨l.toArray⟩ := ba_inj (by rw [h])
theorem ba_nl {a b : ByteArray} (h : ¬ a = b) : ¬ a.toList = b.toList := fun e => h (ba_inj (by rwa [Lib.toList_data, Lib.toList_data] at e))
theorem fmt_any (n : Int) (h0 : -9223372036854775808 ≤ n) (h1 : n ≤ 9223372036854775807) (w : World) (hG : GlobP w) :
    Calls Tryz.prog 16 #[.int .i64 n, .int .i64 10] w fun e w' => e = .returned (.string ⟨(Lib.itoa n).toArray⟩) ∧ Below w.heap.size w w' := by
  refine (Any.strconv_FormatInt_10 laysM173 n h0 h1 w hG.tab).mono fun e w' => ?_
  rintro ⟨rfl, k, os, rfl⟩
  exact ⟨rfl, Lib.below_grow _ _ (Nat.le_refl _) _ _⟩
theorem parse_any (s : ByteArray) (w : World) (hs : s.size ≤ 1000000) (hG : GlobP w) :
    Calls Tryz.prog 22 #[.string s, .int .i64 10, .int .i64 64] w fun e w' => (∃ v x, e = .returned (.tuple #[.int .i64 v, x]) ∧ ((Lib.parseIntB 64 s.data.toList = .ok v ∧ x = .nilIface) ∨ ((∀ u, Lib.parseIntB 64 s.data.toList ≠ .ok u) ∧ -9223372036854775808 ≤ v ∧ v ≤ 9223372036854775807 ∧ ∃ t p, x = .iface t p))) ∧ Below w.heap.size w w' := by
  obtain ⟨-, ⟨t1, v1, h1⟩, ⟨t2, v2, h2⟩, -⟩ := hG
  have k1 := World.var?_cell rngG_is h1 0
  have k2 := World.var?_cell synG_is h2 0
  rcases hn : Lib.parseIntB 64 s.data.toList with v | _ | _
  · refine (Any.strconv_ParseInt_10_at64_ok laysC174 s (by omega) v hn w).mono fun e w' h => ?_
    obtain ⟨rfl, hw⟩ := h
    refine ⟨⟨v, _, rfl, Or.inl ⟨rfl, rfl⟩⟩, ?_⟩
    rcases hw with rfl | ⟨t, rfl⟩
    · exact Below.refl _ _
    · exact Lib.bytesWorld_below _ _ _
  · refine (Any.strconv_ParseInt_10_at64_syntax laysC174 s (by omega) hn _ w (by rw [show laysC174_ren.g 15 = synG by kernel_rfl]; simpa using k2) (Or.inr ⟨_, _, rfl⟩)).mono fun e w' h => ?_
    obtain ⟨N, rfl, -, -, hb⟩ := h
    refine ⟨⟨0, _, rfl, Or.inr ⟨?_, ?_, ?_, _, _, rfl⟩⟩, hb⟩
    · intro u h; cases h
    · decide
    · decide
  · refine (Any.strconv_ParseInt_10_at64_range laysC174 s (by omega) hn _ w (by rw [show laysC174_ren.g 16 = rngG by kernel_rfl]; simpa using k1) (Or.inr ⟨_, _, rfl⟩)).mono fun e w' h => ?_
    obtain ⟨N, rfl, -, -, hb⟩ := h
    refine ⟨⟨Lib.intSat 64 s.data.toList, _, rfl, Or.inr ⟨?_, ?_, ?_, _, _, rfl⟩⟩, hb⟩
    · intro u h; cases h
    · unfold Lib.intSat; split <;> decide
    · unfold Lib.intSat; split <;> decide
end Go.Proofs.YtpdhkgfdmpofiaaGreatDoor
