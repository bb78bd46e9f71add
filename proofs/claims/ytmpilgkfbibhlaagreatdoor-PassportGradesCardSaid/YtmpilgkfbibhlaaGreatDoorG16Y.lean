/-
 The reference's Module.
-/
import Derived.Test.YtmpilgkfbibhlaaGreatDoorG15Y
import Derived.Test.YtmpilgkfbibhlaaGreatDoorG3Y
import Derived.Lib.ParseIntBTie
import Derived.Test.YtmpilgkfbibhlaaGreatDoorG13Y
import Derived.Deep.Cut
import Derived.Test.YtmpilgkfbibhlaaGreatDoorG14Y
import Derived.Test.YtmpilgkfbibhlaaGreatDoorG9Y
import Derived.Deep.MidRow
import Derived.Deep.Slices
import Derived.Lib.SmallJoins
import Derived.OpenShut
import Derived.ChangeSame
import Derived.ChangeSlices
import Derived.ChangeShapes
set_option linter.unusedSimpArgs false
set_option linter.unusedVariables false
namespace Go.Proofs.YtmpilgkfbibhlaaGreatDoor
open Sx Go.RowKit
def mAt (s : ByteArray) (j : Nat) : Prop := ∃ o : List UInt8, s.data.toList = o ++ 58 :: Lib.itoa (j : Int) ∧ nameB ⟨o.toArray⟩ = true
theorem name_no58 {o : List UInt8} (h : nameB ⟨o.toArray⟩ = true) : ∀ c ∈ o, c ≠ 58 := fun c hc e => by
 unfold nameB at h
 rw [Bool.and_eq_true] at h
 have := List.all_eq_true.1 h.2 c (by simpa using hc)
 subst e
 revert this
 decide
theorem colon_at {s : ByteArray} {o r : List UInt8} (h : s.data.toList = o ++ 58 :: r) (ho : ∀ c ∈ o, c ≠ 58) : colon s = o.length := by
 have h0 : s.data.toList[o.length]? = some 58 := by rw [h]; simp
 unfold colon
 rcases Int.lt_or_le (Lib.indexByte s.data.toList 58) 0 with q | q
 ·have h1 : Lib.indexByte s.data.toList 58 = -1 := by have := Lib.indexByte_ge s.data.toList 58; omega
  exact absurd h0 (Lib.indexByte_none h1 _)
 ·obtain ⟨i, hi⟩ := Int.eq_ofNat_of_zero_le q
  obtain ⟨a1, a2⟩ := Lib.indexByte_some hi
  rw [hi]
  rcases Nat.lt_trichotomy i o.length with c | c | c
  ·exfalso
   rw [h, List.getElem?_append_left c] at a1
   exact ho _ (List.mem_of_getElem? a1) rfl
  ·rw [c]
  ·exact absurd h0 (a2 _ c)
theorem cut_at58 {s : ByteArray} {o r : List UInt8} (h : s.data.toList = o ++ 58 :: r) (ho : ∀ c ∈ o, c ≠ 58) : cutS s = (⟨o.toArray⟩, ⟨r.toArray⟩, true) := by
 have hc := colon_at h ho
 have hsz : s.size = o.length + 1 + r.length := by rw [Lib.size_eq, h]; simp; omega
 have e1 : s.extract 0 o.length = ⟨o.toArray⟩ := ba_inj (by rw [Lib.extract_eq, h]; simp)
 have e2 : s.extract (o.length + 1) s.size = ⟨r.toArray⟩ := ba_inj (by rw [Lib.extract_eq, h, hsz]; simp)
 unfold cutS
 rw [if_pos (by rw [hc]; omega), hc]
 simp only [Int.toNat_natCast]
 rw [e1, e2]
theorem mAt_mod {s : ByteArray} {j : Nat} (hj : j < 32) {o : List UInt8} (h : s.data.toList = o ++ 58 :: Lib.itoa (j : Int)) (hn : nameB ⟨o.toArray⟩ = true) : modB s = true ∧ (cutS s).1 = ⟨o.toArray⟩ := by
 have hc := cut_at58 h (name_no58 hn)
 have hv : numS ⟨(Lib.itoa (j : Int)).toArray⟩ = some (j : Int) := by
  unfold numS
  rw [← Lib.parseIntB_64]
  have e : (ByteArray.mk (Lib.itoa (j : Int)).toArray).data.toList = Lib.itoa (j : Int) := by simp
  rw [e, parse_itoa (by omega) (by omega)]
 refine ⟨?_, by rw [hc]⟩
 unfold modB
 rw [hc]
 dsimp only
 rw [hv]
 have e2 : (ByteArray.mk (Lib.itoa (j : Int)).toArray).toList = Lib.itoa (j : Int) := by rw [Lib.toList_data]
 simp only [Bool.true_and, Bool.and_eq_true, decide_eq_true_eq, beq_iff_eq]
 exact ⟨⟨⟨by omega, by omega⟩, e2.symm⟩, hn⟩
theorem mod_mAt {s : ByteArray} (h : modB s = true) : ∃ j, j < 32 ∧ mAt s j := by
 unfold modB at h
 rw [Bool.and_eq_true] at h
 obtain ⟨h1, h2⟩ := h
 have hc : 0 ≤ colon s := by
  by_cases hc : 0 ≤ colon s
  ·exact hc
  ·unfold cutS at h1; rw [if_neg hc] at h1; cases h1
 have e : cutS s = (s.extract 0 (colon s).toNat, s.extract ((colon s).toNat + 1) s.size, true) := by unfold cutS; rw [if_pos hc]
 rw [e] at h2
 obtain ⟨i, hi⟩ := Int.eq_ofNat_of_zero_le hc
 have hat := (Lib.indexByte_some (l := s.data.toList) (c := 58) (o := i) hi).1
 have hil := (List.getElem?_eq_some_iff.1 hat).1
 rw [hi] at h2
 simp only [Int.toNat_natCast] at h2
 have ea : (s.extract 0 i).data.toList = s.data.toList.take i := by rw [Lib.extract_eq]; simp
 have eb : (s.extract (i + 1) s.size).data.toList = s.data.toList.drop (i + 1) := by
  rw [Lib.extract_eq]
  simp only [List.toList_toArray]
  exact List.take_of_length_le (by rw [List.length_drop, ← Lib.size_eq]; exact Nat.le_refl _)
 cases hn : numS (s.extract (i + 1) s.size) with
 | none => rw [hn] at h2; cases h2
 | some v =>
  rw [hn] at h2
  simp only [Bool.and_eq_true, decide_eq_true_eq, beq_iff_eq] at h2
  obtain ⟨⟨⟨v0, v1⟩, hv⟩, hnm⟩ := h2
  obtain ⟨j, rfl⟩ := Int.eq_ofNat_of_zero_le v0
  rw [Lib.toList_data, eb] at hv
  refine ⟨j, by omega, s.data.toList.take i, ?_, ?_⟩
  ·rw [hv]
   exact take_at hat
  ·have : (⟨(s.data.toList.take i).toArray⟩ : ByteArray) = s.extract 0 i := ba_inj (by rw [ea])
   rw [this]
   exact hnm
end Go.Proofs.YtmpilgkfbibhlaaGreatDoor
namespace Go.Proofs.YtmpilgkfbibhlaaGreatDoor
open Go.RowKit Mr
def o1 (x : Option Rw) : Nat → Option Rw := fun s => if s = 0 then x else none
section
variable {w W w2 : World} {B bx : Nat} {ob : Obj} {R A C : List Nat} {vr : Value} {b0 b1 b2 b3 : Bool} {v0 v1 v2 v3 : Value}
end
end Go.Proofs.YtmpilgkfbibhlaaGreatDoor
namespace Go.Proofs.YtmpilgkfbibhlaaGreatDoor
open Go.RowKit Mr
def f3 (x y z : Option Rw) : Nat → Option Rw := fun s => if s = 0 then x else if s = 1 then y else if s = 2 then z else none
section
variable {w W w2 : World} {R A : List Nat} {C : Nat} {b0 b1 b2 b3 b4 b5 : Bool} {v0 v1 v2 v3 v4 v5 v : Value}
end
end Go.Proofs.YtmpilgkfbibhlaaGreatDoor
namespace Go.Proofs.YtmpilgkfbibhlaaGreatDoor
open Go.ChangeShapes Go.WideShapes Go.ChangeAt Go.RowKit Go.Deep
section
variable {H : Type} {enc : TypeId × Value → H} {W : World} {held : Bool}
theorem rows_open {α : Type} [Inhabited α] {n sz : Nat} {T E : TypeId} {v : Value} {x : DataW H × List MemPlace} {cells : α → List Value} {Ok : α → Prop} (hT : Tryz.prog.underlying T = some (.slice E)) (hE : Tryz.prog.cellsOf E = sz) (hsz : 0 < sz)
  (each : ∀ {m : Nat} {cs : List Value} {y : DataW H × List MemPlace}, DataW.trod enc Tryz.prog W 0 (fun _ => true) held m E cs = some y → ∃ q : α, cs = cells q ∧ Ok q)
  (h : DataW.trod enc Tryz.prog W 0 (fun _ => true) held n T [v] = some x) :
  ∃ (a : Option Addr) (c : Nat) (l : List α), v = .slice a l.length c ∧ l.length ≤ c ∧ c ≤ maxLen ∧ (∀ q ∈ l, Ok q) ∧ (l ≠ [] → ∃ b off, a = some ⟨b, off, none⟩ ∧ b < W.heap.size ∧ ∀ (k : Nat) (q : α), l[k]? = some q → ∀ (j : Nat) (u : Value), (cells q)[j]? = some u → W.cell? ⟨b, off + k * sz + j, none⟩ = some u) := by
 rcases open_slice hT h with ⟨hcs, _⟩ | ⟨a, len, cap, m, n', D, Pl, hcs, hb, hl, hm, hmm, hx, hi⟩
 ·simp only [List.cons.injEq, and_true] at hcs
  exact ⟨none, 0, [], hcs, Nat.le_refl _, by decide, (fun q hq => by cases hq), fun hn => absurd rfl hn⟩
 ·simp only [List.cons.injEq, and_true] at hcs
  simp only [if_true] at hmm
  subst hmm
  rw [hE] at hi
  have each2 : ∀ i, i < len → ∃ q : α, Ok q ∧ (cells q).length = sz ∧ ∀ j, j < sz → W.cell? ((a.add (i * sz)).add j) = (cells q)[j]? := by
   intro i hlt
   obtain ⟨cs', h1, h2⟩ := hi i (by omega)
   obtain ⟨q, hq, hok⟩ := each h2
   obtain ⟨_, hlen, hc⟩ := World.cells?_some h1
   rw [hq] at hlen hc
   exact ⟨q, hok, hlen, hc⟩
  obtain ⟨f, hf⟩ := choose_lt each2
  have hlen : ((List.range len).map f).length = len := by simp
  refine ⟨some a, m, (List.range len).map f, by rw [hlen]; exact hcs, by rw [hlen]; exact hl, hm, fun q hq => ?_, fun hn => ?_⟩
  ·obtain ⟨i, hi2, rfl⟩ := List.mem_map.1 hq
   exact (hf i (List.mem_range.1 hi2)).1
  ·have h0 : 0 < len := by
    rcases Nat.eq_zero_or_pos len with e | e
    ·subst e; exact absurd rfl hn
    ·exact e
   obtain ⟨b, off, spot⟩ := a
   obtain ⟨-, hl0, hc0⟩ := hf 0 h0
   have hc00 := hc0 0 hsz
   rw [List.getElem?_eq_getElem (by omega)] at hc00
   have hspot : spot = none := by simpa [Addr.add] using World.cell?_spot hc00
   subst hspot
   have hadd : ∀ i j, (((⟨b, off, none⟩ : Addr).add i).add j) = ⟨b, off + i + j, none⟩ := fun i j => by rw [Addr.add_mid, Addr.add_mid]
   refine ⟨b, off, rfl, ?_, fun k q hk j u hj => ?_⟩
   ·rw [hadd] at hc00
    exact cell_lt hc00
   ·have hkl : k < len := by have := (List.getElem?_eq_some_iff.1 hk).1; omega
    have e : f k = q := by
     rw [List.getElem?_map, List.getElem?_range hkl] at hk
     simpa using hk
    subst e
    obtain ⟨-, hlk, hck⟩ := hf k hkl
    have hjl : j < sz := by have := (List.getElem?_eq_some_iff.1 hj).1; omega
    rw [← hadd, hck j hjl, hj]
end
end Go.Proofs.YtmpilgkfbibhlaaGreatDoor
