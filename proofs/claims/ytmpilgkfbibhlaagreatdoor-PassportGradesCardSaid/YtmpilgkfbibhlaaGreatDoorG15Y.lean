/-
 Entries and events in memory.
-/
import Derived.Test.YtmpilgkfbibhlaaGreatDoorG14Y
import Derived.Test.YtmpilgkfbibhlaaGreatDoorG1Y
import Derived.Test.YtmpilgkfbibhlaaGreatDoorG3Y
import Derived.Deep.Cut
import Derived.Test.YtmpilgkfbibhlaaGreatDoorG10Y
import Derived.Lib.ParseIntB
import Derived.Lib.IndexLaws
import Derived.Lib.IndexMore
import Derived.Lib.ItoaLen
import Derived.Test.YtmpilgkfbibhlaaGreatDoorG8Y
import Derived.Lib.AtoiErrMem
import Derived.Lib.Split
import Derived.Lib.SplitLaws
set_option linter.unusedSimpArgs false
set_option linter.unusedVariables false
namespace Go.Proofs.YtmpilgkfbibhlaaGreatDoor
open Go.RowKit Mr
def EntAt (a : Option Addr) (es : List Ent) (W : World) : Prop := es ≠ [] → ∃ b off, a = some ⟨b, off, none⟩ ∧ b < W.heap.size ∧ ∀ (k : Nat) (y : Ent), es[k]? = some y → ∀ (j : Nat) (u : Value), (entC y)[j]? = some u → W.cell? ⟨b, off + k * 10 + j, none⟩ = some u
theorem EntAt.step {a : Option Addr} {es : List Ent} {W w2 : World} (h : EntAt a es W) (hb : Below W.heap.size W w2) : EntAt a es w2 := by
 intro hn
 obtain ⟨b, off, e1, e2, e3⟩ := h hn
 exact ⟨b, off, e1, Nat.lt_of_lt_of_le e2 hb.size, fun k y hk j u hj => cell_step (e3 k y hk j u hj) hb⟩
def evtC : Evt → List Value
 | (k, t, a, b, nm, ot) => [.int .i64 k, .int .i64 t, .int .i64 a, .int .i64 b, .string nm, .string ot]
theorem evtC_len (e : Evt) : (evtC e).length = 6 := by obtain ⟨k, t, a, b, nm, ot⟩ := e; rfl
def EvAt (a : Option Addr) (h : List Evt) (W : World) : Prop := h ≠ [] → ∃ b off, a = some ⟨b, off, none⟩ ∧ b < W.heap.size ∧ ∀ (k : Nat) (e : Evt), h[k]? = some e → ∀ (j : Nat) (u : Value), (evtC e)[j]? = some u → W.cell? ⟨b, off + k * 6 + j, none⟩ = some u
theorem EvAt.step {a : Option Addr} {h : List Evt} {W w2 : World} (hh : EvAt a h W) (hb : Below W.heap.size W w2) : EvAt a h w2 := by
 intro hn
 obtain ⟨b, off, e1, e2, e3⟩ := hh hn
 exact ⟨b, off, e1, Nat.lt_of_lt_of_le e2 hb.size, fun k y hk j u hj => cell_step (e3 k y hk j u hj) hb⟩
end Go.Proofs.YtmpilgkfbibhlaaGreatDoor
namespace Go.Proofs.YtmpilgkfbibhlaaGreatDoor
theorem itoa_cases (n : Int) : (∃ u : Nat, n = u ∧ Lib.itoa n = Lib.decDigits u) ∨ (∃ u : Nat, 1 ≤ u ∧ n = -(u : Int) ∧ Lib.itoa n = 45 :: Lib.decDigits u) := by
 rcases Int.lt_or_le n 0 with h | h
 ·obtain ⟨u, hu⟩ := Int.eq_ofNat_of_zero_le (show 0 ≤ -n by omega)
  have e : n = -(u : Int) := by omega
  exact .inr ⟨u, by omega, e, by rw [e]; exact Lib.itoa_neg u (by omega)⟩
 ·obtain ⟨u, hu⟩ := Int.eq_ofNat_of_zero_le h
  exact .inl ⟨u, hu, by rw [hu]; exact Lib.itoa_nonneg u⟩
theorem dec_head {u : Nat} {c : UInt8} {r : List UInt8} (h : Lib.decDigits u = c :: r) : 48 ≤ c.toNat ∧ c.toNat ≤ 57 := dec_plain u c (by rw [h]; exact List.mem_cons_self ..)
/-! strconv.ParseInt at a decimal number. -/
theorem pM_dec {M u : Nat} (hM : M ≤ 18446744073709551615) (hu : u ≤ M) (r : List UInt8) : Lib.parseUintM M 0 (Lib.decDigits u ++ r) = Lib.parseUintM M u r := by
 induction u using Nat.strongRecOn generalizing r with
 | ind u ih =>
  have h48 : ∀ d, d < 10 → (UInt8.ofNat (48 + d)).toNat = 48 + d := fun d hd => dig_nat hd
  by_cases h : u < 10
  ·rw [Lib.decDigits_one h, List.singleton_append, Lib.parseUintM, h48 u h]
   rw [if_pos ⟨by omega, by omega⟩, if_neg (by decide), if_neg (by omega)]
   congr 1; omega
  ·rw [dec_step h, List.append_assoc, ih (u / 10) (by omega) (by omega), List.singleton_append, Lib.parseUintM, h48 (u % 10) (by omega)]
   rw [if_pos ⟨by omega, by omega⟩, if_neg (by omega), if_neg (by omega)]
   congr 1; omega
theorem pU_dec {u : Nat} (hu : u ≤ 18446744073709551615) : Lib.parseUintB 64 (Lib.decDigits u) = .ok u := by
 unfold Lib.parseUintB
 rw [if_neg (dec_ne u)]
 have := pM_dec (M := 18446744073709551615) (by decide) hu []
 rw [List.append_nil] at this
 exact this
theorem parse_itoa {n : Int} (h1 : -9223372036854775808 ≤ n) (h2 : n ≤ 9223372036854775807) : Lib.parseIntB 64 (Lib.itoa n) = .ok n := by
 rcases itoa_cases n with ⟨u, e1, e2⟩ | ⟨u, hu, e1, e2⟩
 ·rw [e2]
  cases hd : Lib.decDigits u with
  | nil => exact absurd hd (dec_ne u)
  | cons c r =>
   have hc := dec_head hd
   unfold Lib.parseIntB
   have k1 : ¬ (c.toNat = 43 ∨ c.toNat = 45) := by omega
   have k2 : ¬ c.toNat = 45 := by omega
   simp only [if_neg k1]
   rw [← hd, pU_dec (by omega)]
   simp only [k2, not_false_eq_true, true_and, false_and, if_false]
   rw [if_neg (by show ¬ 9223372036854775808 ≤ u; omega)]
   rw [e1]
 ·rw [e2]
  unfold Lib.parseIntB
  have k2 : (45 : UInt8).toNat = 45 := rfl
  simp only [k2, or_true, if_true]
  rw [pU_dec (by omega)]
  simp only [not_true_eq_false, false_and, true_and, if_true, if_false]
  rw [if_neg (by show ¬ 9223372036854775808 < u; omega)]
  rw [e1]
/-! The reference's Number. -/
/-! Spans. -/
end Go.Proofs.YtmpilgkfbibhlaaGreatDoor
namespace Go.Proofs.YtmpilgkfbibhlaaGreatDoor
open Sx Go.RowKit
theorem ba_inj {a b : ByteArray} (h : a.data.toList = b.data.toList) : a = b := by
 obtain ⟨⟨x⟩⟩ := a
 obtain ⟨⟨y⟩⟩ := b
 have h' : x = y := h
 rw [h']
end Go.Proofs.YtmpilgkfbibhlaaGreatDoor
namespace Go.Proofs.YtmpilgkfbibhlaaGreatDoor
/-! Texts cut at spaces. -/
theorem take_at {l : List UInt8} {i : Nat} {c : UInt8} (h : l[i]? = some c) : l = l.take i ++ c :: l.drop (i + 1) := by
 obtain ⟨hi, hc⟩ := List.getElem?_eq_some_iff.1 h
 conv => lhs; rw [← List.take_append_drop i l]
 rw [List.drop_eq_getElem_cons hi, hc]
/-! Guards. -/
def gW : List UInt8 := [103, 117, 97, 114, 100]
def gZ (L : List Int) : List (List UInt8) := gW :: L.map Lib.itoa
def gTxt (L : List Int) : List UInt8 := Lib.join (gZ L) [32]
open Classical in
noncomputable def parG (ok : List Int → Prop) (l : List UInt8) : Option (List Int) := if h : ∃ L, L.length = 22 ∧ ok L ∧ l = gTxt L then some h.choose else none
section
variable {ok : List Int → Prop} {l : List UInt8}
end
/-! The reference's way: pieces one by one. -/
section
variable {ok : List Int → Prop} {l : List UInt8} {X : List Int}
end
end Go.Proofs.YtmpilgkfbibhlaaGreatDoor
