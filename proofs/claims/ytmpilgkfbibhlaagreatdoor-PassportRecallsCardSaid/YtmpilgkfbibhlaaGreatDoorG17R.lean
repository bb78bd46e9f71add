/-
 Bytes of a valid event.
-/
import Derived.Test.YtmpilgkfbibhlaaGreatDoorG16R
import Derived.Test.YtmpilgkfbibhlaaGreatDoorG10R
import Derived.Laws.IdiomStrings
import Derived.Laws.BytesArg
import Derived.Test.YtmpilgkfbibhlaaGreatDoorG1R
import Derived.Test.YtmpilgkfbibhlaaGreatDoorG8R
import Derived.Test.YtmpilgkfbibhlaaGreatDoorG14R
set_option linter.unusedSimpArgs false
set_option linter.unusedVariables false
namespace Go.Proofs.YtmpilgkfbibhlaaGreatDoor
open Sx Go.RowKit
theorem own_byt {B : Nat} {v : Value} {m : List Nat} {W : World} (h : W.ownsRow B 5 1 v (byC m).length (byC m)) : ∃ a c, v = .slice a m.length c ∧ BytV a m W := by
 have hl : (byC m).length = m.length := by simp [byC]
 rw [hl] at h
 obtain ⟨-, h⟩ := h
 rcases h with ⟨rfl, h⟩ | ⟨g, cap, cur, rfl, -, hg, hn, -, hs, ht⟩
 ·refine ⟨none, 0, by rw [h], fun hn => ?_⟩
  exact absurd (List.length_eq_zero_iff.1 h) hn
 ·refine ⟨_, _, rfl, fun _ => ⟨g, 0, rfl, ?_, fun k hk => ?_⟩⟩
  ·rcases Nat.lt_or_ge g W.heap.size with h1 | h1
   ·exact h1
   ·rw [Array.getElem?_eq_none h1] at hg; cases hg
  ·rw [Lib.cell_of_heap hg]
   have h2 : (cur.toList.take (m.length * 1))[k]? = (byC m)[k]? := by rw [ht]
   rw [List.getElem?_take_of_lt (by omega)] at h2
   have h3 : (byC m)[k]? = some (.int .u8 (m.getD k 0 : Nat)) := by
    unfold byC
    rw [List.getElem?_map, List.getElem?_eq_getElem hk, List.getD_eq_getElem?_getD, List.getElem?_eq_getElem hk]
    rfl
   rw [h3] at h2
   simpa using h2
theorem b8_byt (n : Nat) : ∀ x ∈ b8 n, x < 256 := by
 intro x hx
 unfold b8 at hx
 simp only [List.mem_cons, List.not_mem_nil, or_false] at hx
 omega
theorem u8_byt (l : List UInt8) : ∀ x ∈ l.map UInt8.toNat, x < 256 := by
 intro x hx
 obtain ⟨c, _, rfl⟩ := List.mem_map.1 hx
 exact UInt8.toNat_lt c
theorem bytesE_byt {e : Ev} (hk : e.k ≤ 9) (h1 : e.nm.length ≤ 100) (h2 : e.ot.length ≤ 100) : Byt (bytesE e) := by
 have h : ∀ x ∈ bytesE e, x < 256 := by
  intro x hx
  unfold bytesE at hx
  simp only [List.mem_cons, List.mem_append] at hx
  rcases hx with rfl | hx | hx | hx | rfl | hx | rfl | hx
  ·omega
  ·exact b8_byt _ _ hx
  ·exact b8_byt _ _ hx
  ·exact b8_byt _ _ hx
  ·omega
  ·exact u8_byt _ _ hx
  ·omega
  ·exact u8_byt _ _ hx
 intro k
 by_cases hk : k < (bytesE e).length
 ·rw [List.getD_eq_getElem?_getD, List.getElem?_eq_getElem hk]
  exact h _ (List.getElem_mem hk)
 ·rw [List.getD_eq_getElem?_getD, List.getElem?_eq_none (by omega)]
  decide
theorem bytesE_is (k t a b : Nat) (nm ot : ByteArray) : k :: (([t, a, b].take 3).map b8).flatten ++ (([nm, ot].take 2).map fun s => s.size :: s.data.toList.map UInt8.toNat).flatten = bytesE (evL k t a b nm ot) := by
 unfold bytesE evL
 simp
end Go.Proofs.YtmpilgkfbibhlaaGreatDoor
namespace Go.Proofs.YtmpilgkfbibhlaaGreatDoor
open Go.RowKit
def bigL (n m : Nat) : List Nat := (List.range m).map fun j => n / 256 ^ (m - 1 - j) % 256
theorem bigL_len (n m : Nat) : (bigL n m).length = m := by simp [bigL]
end Go.Proofs.YtmpilgkfbibhlaaGreatDoor
namespace Go.Proofs.YtmpilgkfbibhlaaGreatDoor
open Go
abbrev Ent := Evt × Int × Int × Nat × Nat
abbrev Bk := Nat × List Nat
def P31 : Nat := 2147483647
def okX : Evt → Bool
 | (k, t, a, b, nm, ot) => okE k t a b nm ot
def bytX : Evt → List Nat
 | (k, t, a, b, nm, ot) => bytesE (evL k t a b nm ot)
def msgE (head : Nat) (e : Evt) (by_ : Nat) : List Nat := bigL head 4 ++ bytX e ++ [by_ % 256]
def headD (pt : Nat) (m : List Nat) : Nat := dig P31 3 pt m
def beginE (pt : Nat) (name : ByteArray) : Nat := headD pt (name.data.toList.map UInt8.toNat)
def nextE (pt : Nat) (bks : List Bk) (head : Nat) (e : Evt) (by_ pad : Nat) : Ent :=
 (e, by_, pad, headD pt (msgE head e by_), (headD (bks.getD by_ (0, [])).1 (msgE head e by_) + (bks.getD by_ (0, [])).2.getD pad 0) % P31)
def headOf (pt : Nat) (name : ByteArray) (pre : List Ent) : Nat := match pre.getLast? with
 | none => beginE pt name
 | some y => y.2.2.2.1
def pairIn (pre : List Ent) (b p : Int) : Bool := pre.any fun y => y.2.1 == b && y.2.2.1 == p
def inBook (bks : List Bk) (b p : Int) : Bool := decide (0 ≤ b ∧ b < bks.length ∧ 0 ≤ p ∧ p < (bks.getD b.toNat (0, [])).2.length)
def rightB (pt : Nat) (bks : List Bk) (name : ByteArray) (pre : List Ent) (x : Ent) : Bool :=
 okX x.1 && canR name (pre.map (·.1)) x.1 && inBook bks x.2.1 x.2.2.1 && !(pairIn pre x.2.1 x.2.2.1) && decide (nextE pt bks (headOf pt name pre) x.1 x.2.1.toNat x.2.2.1.toNat = x)
def AllR (pt : Nat) (bks : List Bk) (name : ByteArray) (l : List Ent) (n : Nat) : Prop := ∀ i, i < n → ∃ x, l[i]? = some x ∧ rightB pt bks name (l.take i) x = true
def verN (pt : Nat) (bks : List Bk) (name : ByteArray) : List Ent → List Ent → Nat
 | pre, [] => pre.length
 | pre, x :: r => if rightB pt bks name pre x = true then verN pt bks name (pre ++ [x]) r else pre.length
theorem verN_go {pt : Nat} {bks : List Bk} {name : ByteArray} {pre r : List Ent} {x : Ent} (h : rightB pt bks name pre x = true) : verN pt bks name pre (x :: r) = verN pt bks name (pre ++ [x]) r := by
 conv => lhs; unfold verN
 rw [h]; rfl
def badBk : Bk → Bool
 | (p, ps) => decide (p < 1) || decide (P31 ≤ p) || decide (5000 < ps.length) || ps.any fun n => decide (P31 ≤ n)
def secR (pt : Nat) (bks : List Bk) : Int := if pt < 1 ∨ P31 ≤ pt then 3 else if bks.length < 1 ∨ 8 < bks.length ∨ bks.any badBk = true then 2 else 0
def evsOf (l : List Ent) : List Evt := l.map (·.1)
end Go.Proofs.YtmpilgkfbibhlaaGreatDoor
