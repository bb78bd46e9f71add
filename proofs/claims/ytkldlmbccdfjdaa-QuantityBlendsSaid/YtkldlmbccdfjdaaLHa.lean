/-
  The walk of the law QuantityHalves.
-/
import Derived.Test.YtkldlmbccdfjdaaHp
import Derived.Test.YtkldlmbccdfjdaaTwo
set_option linter.unusedSimpArgs false
set_option linter.unusedVariables false
namespace Go.Proofs.Ytkldlmbccdfjdaa
open Go.RowKit

def flatI (xs : List Int) : List Value := xs.map (Value.int .i64)
/-- The slice v owns the numbers xs, in a block from B on. -/
def IntOwn (W : World) (B : Nat) (v : Value) (xs : List Int) : Prop := W.ownsRow B 2 1 v xs.length (flatI xs)
theorem IntOwn.nil {W : World} {B : Nat} : IntOwn W B (.slice none 0 0) [] := ⟨rfl, Or.inl ⟨rfl, rfl⟩⟩
theorem own_step {W w2 : World} {B e s : Nat} {v : Value} {n : Nat} {xs : List Value} (h : W.ownsRow B e s v n xs) (hb : Below W.heap.size W w2) : w2.ownsRow B e s v n xs := by
  obtain ⟨h1, h2⟩ := h
  refine ⟨h1, ?_⟩
  rcases h2 with h2 | ⟨g, cap, cur, q1, q2, q3, q4⟩
  · exact Or.inl h2
  · exact Or.inr ⟨g, cap, cur, q1, q2, blk_step q3 hb, q4⟩
theorem IntOwn.step {W w2 : World} {B : Nat} {v : Value} {xs : List Int} (h : IntOwn W B v xs) (hb : Below W.heap.size W w2) : IntOwn w2 B v xs := own_step h hb
theorem IntOwn.row {W : World} {B : Nat} {v : Value} {xs : List Int} (h : IntOwn W B v xs) : IntRow v xs W := by
  obtain ⟨h1, h2⟩ := h
  rcases h2 with ⟨rfl, h2⟩ | ⟨g, cap, cur, rfl, q2, q3, q4, q5, q6, q7⟩
  · exact ⟨none, 0, by rw [h2], fun hn => absurd (List.length_eq_zero_iff.1 h2) hn⟩
  · refine ⟨_, _, rfl, fun _ => ⟨g, 0, rfl, blk_lt q3, fun j hj => ?_⟩⟩
    have hf : (flatI xs)[j]? = some (.int .i64 (xs.getD j 0)) := by simp [flatI, List.getD_eq_getElem?_getD, List.getElem?_eq_getElem hj]
    rw [← q7, List.getElem?_take_of_lt (by omega)] at hf
    exact blk_cell q3 (by simpa using hf)
theorem IntOwn.more {W : World} {B : Nat} {v : Value} {xs : List Int} {x : Int} (h : W.ownsRow B 2 1 v (xs.length + 1) (flatI xs ++ [.int .i64 x])) : IntOwn W B v (xs ++ [x]) := by
  unfold IntOwn flatI
  rw [List.map_append, List.length_append]
  exact h
theorem infoI : (Try.prog.info? 2).map (fun i => (i.zero, i.size, i.bytes)) = some (some (.int .i64 0), 1, 8) := by kernel_rfl
theorem one_cells (W : World) (x : Int) (T : TypeId) : ∀ j u, [Value.int .i64 x][j]? = some u → (W.alloc (.cells #[.int .i64 x] T)).cell? ((⟨W.heap.size, 0, none⟩ : Addr).add j) = some u := by
  intro j u hj
  match j, hj with
  | 0, hj => simp at hj; subst hj; simp [Addr.add]
theorem one_one (x : Int) : ∀ u ∈ [Value.int .i64 x], u.oneCell' = true := by
  intro u hu
  simp at hu
  rw [hu]; rfl
/-- A row of spans and a row of numbers never lie in one block. -/
theorem own_apart {W : World} {B : Nat} {v u : Value} {n m : Nat} {xs ys : List Value} (h : W.ownsRow B 40 2 v n xs) (g : W.ownsRow B 2 1 u m ys) : v.ownBlock = none ∨ v.ownBlock ≠ u.ownBlock := by
  rcases h.2 with ⟨rfl, _⟩ | ⟨b1, cap, cur, rfl, q2, q3, _⟩
  · exact Or.inl rfl
  · right
    rcases g.2 with ⟨rfl, _⟩ | ⟨b2, cap2, cur2, rfl, r2, r3, _⟩
    · intro e; cases e
    · intro e
      simp only [Value.ownBlock, Option.some.injEq] at e
      rw [e, r3] at q3
      simp only [Option.some.injEq, Obj.cells.injEq] at q3
      exact absurd q3.2.1 (by decide)
theorem own_apart' {W : World} {B : Nat} {v u : Value} {n m : Nat} {xs ys : List Value} (h : W.ownsRow B 40 2 v n xs) (g : W.ownsRow B 2 1 u m ys) : u.ownBlock = none ∨ u.ownBlock ≠ v.ownBlock := by
  rcases own_apart h g with e | e
  · cases hu : u.ownBlock with
    | none => exact Or.inl rfl
    | some b => exact Or.inr (by rw [e]; simp)
  · exact Or.inr (fun c => e c.symm)

abbrev Sm3 := Int × Int × Int
def sm0 : Sm3 := (0, 0, 0)
/-- A slice of small spans. -/
def SmAt (a : Option Addr) (l : List Sm3) (W : World) : Prop := l ≠ [] → ∃ b off, a = some ⟨b, off, none⟩ ∧ b < W.heap.size ∧ ∀ k, k < l.length →
  W.cell? ⟨b, off + k * 3, none⟩ = some (.int .i16 (l.getD k sm0).1) ∧ W.cell? ⟨b, off + k * 3 + 1, none⟩ = some (.int .i16 (l.getD k sm0).2.1) ∧ W.cell? ⟨b, off + k * 3 + 2, none⟩ = some (.int .u16 (l.getD k sm0).2.2)
def SmOk (s : Sm3) : Prop := -32768 ≤ s.1 ∧ s.1 ≤ 32767 ∧ -32768 ≤ s.2.1 ∧ s.2.1 ≤ 32767 ∧ 0 ≤ s.2.2 ∧ s.2.2 ≤ 65535
def spansOf (l : List Sm3) : List (Int × Int) := l.map fun s => spanOf s.1 s.2.1
def numsOf (l : List Sm3) : List Int := l.map fun s => numOf s.1 s.2.1 s.2.2
theorem spansOf_len (l : List Sm3) : (spansOf l).length = l.length := by simp [spansOf]
theorem numsOf_len (l : List Sm3) : (numsOf l).length = l.length := by simp [numsOf]
theorem spansOf_take (l : List Sm3) (k : Nat) (hk : k < l.length) : spansOf (l.take (k + 1)) = spansOf (l.take k) ++ [spanOf (l.getD k sm0).1 (l.getD k sm0).2.1] := by
  have e : l.getD k sm0 = l[k] := by simp [List.getD_eq_getElem?_getD, List.getElem?_eq_getElem hk]
  rw [List.take_succ_eq_append_getElem hk, e]
  unfold spansOf
  rw [List.map_append]
  rfl
theorem numsOf_take (l : List Sm3) (k : Nat) (hk : k < l.length) : numsOf (l.take (k + 1)) = numsOf (l.take k) ++ [numOf (l.getD k sm0).1 (l.getD k sm0).2.1 (l.getD k sm0).2.2] := by
  have e : l.getD k sm0 = l[k] := by simp [List.getD_eq_getElem?_getD, List.getElem?_eq_getElem hk]
  rw [List.take_succ_eq_append_getElem hk, e]
  unfold numsOf
  rw [List.map_append]
  rfl
theorem spansOf_get {l : List Sm3} {k : Nat} (hk : k < l.length) : (spansOf l).getD k (0, 0) = spanOf (l.getD k sm0).1 (l.getD k sm0).2.1 := by
  simp [spansOf, List.getD_eq_getElem?_getD, List.getElem?_eq_getElem hk]
theorem numsOf_get {l : List Sm3} {k : Nat} (hk : k < l.length) : (numsOf l).getD k 0 = numOf (l.getD k sm0).1 (l.getD k sm0).2.1 (l.getD k sm0).2.2 := by
  simp [numsOf, List.getD_eq_getElem?_getD, List.getElem?_eq_getElem hk]
theorem take_get {l : List Sm3} {n k : Nat} (hk : k < n) : (l.take n).getD k sm0 = l.getD k sm0 := by
  simp [List.getD_eq_getElem?_getD, List.getElem?_take_of_lt hk]

/-- What the law holds on to. -/
def HaSt (x y b z p : Value) (low high L : List (Int × Int)) (xs : List Int) (W : World) : Prop := SpRow x low W ∧ SpRow y high W ∧ SpRow b L W ∧ SpRow z L W ∧ IntRow p xs W
theorem HaSt.step {x y b z p : Value} {low high L : List (Int × Int)} {xs : List Int} {W w2 : World} (h : HaSt x y b z p low high L xs W) (hb : Below W.heap.size W w2) : HaSt x y b z p low high L xs w2 :=
  ⟨h.1.step hb, h.2.1.step hb, h.2.2.1.step hb, h.2.2.2.1.step hb, h.2.2.2.2.step hb⟩
theorem HaSt.hx {x y b z p : Value} {low high L : List (Int × Int)} {xs : List Int} {W : World} (h : HaSt x y b z p low high L xs W) : SpRow x low W := h.1
theorem HaSt.hy {x y b z p : Value} {low high L : List (Int × Int)} {xs : List Int} {W : World} (h : HaSt x y b z p low high L xs W) : SpRow y high W := h.2.1
theorem HaSt.hb {x y b z p : Value} {low high L : List (Int × Int)} {xs : List Int} {W : World} (h : HaSt x y b z p low high L xs W) : SpRow b L W := h.2.2.1
theorem HaSt.hz {x y b z p : Value} {low high L : List (Int × Int)} {xs : List Int} {W : World} (h : HaSt x y b z p low high L xs W) : SpRow z L W := h.2.2.2.1
theorem HaSt.hp {x y b z p : Value} {low high L : List (Int × Int)} {xs : List Int} {W : World} (h : HaSt x y b z p low high L xs W) : IntRow p xs W := h.2.2.2.2

end Go.Proofs.Ytkldlmbccdfjdaa
