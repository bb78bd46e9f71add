/-
  Two rows cloned into a new box, in any order: what the region's operations have done.
-/
import Derived.Test.YtkldlmbccdfjdaaRc
import Derived.Test.YtkldlmbccdfjdaaCs
set_option linter.unusedSimpArgs false
set_option linter.unusedVariables false
namespace Go.Proofs.Ytkldlmbccdfjdaa
open Go.RowKit

/-- The slice x holds a copy of xs, in a block of numbers from B on. -/
def CloX (B : Nat) (xs : List Int) (x : Value) (W : World) : Prop :=
  ∃ g c cur, x = .slice (some ⟨g, 0, none⟩) xs.length c ∧ B ≤ g ∧ W.heap[g]? = some (.cells cur 2 (0, 0)) ∧ ∀ k, k < xs.length → cur[k]? = some (.int .i64 (xs.getD k 0))
theorem CloX.step {B : Nat} {xs : List Int} {x : Value} {W w2 : World} (h : CloX B xs x W) (hb : Below W.heap.size W w2) : CloX B xs x w2 := by
  obtain ⟨g, c, cur, h1, h2, h3, h4⟩ := h
  exact ⟨g, c, cur, h1, h2, blk_step h3 hb, h4⟩
theorem IntOwn.clo {B B2 : Nat} {xs : List Int} {x : Value} {W : World} (h : IntOwn W B x xs) (hn : xs ≠ []) (hB : B2 ≤ B) : CloX B2 xs x W := by
  obtain ⟨h1, h2⟩ := h
  rcases h2 with ⟨rfl, h2⟩ | ⟨g, cap, cur, rfl, q2, q3, q4, q5, q6, q7⟩
  · exact absurd (List.length_eq_zero_iff.1 h2) hn
  · refine ⟨_, _, cur, rfl, by omega, q3, fun j hj => ?_⟩
    have hf : (flatI xs)[j]? = some (.int .i64 (xs.getD j 0)) := by simp [flatI, List.getD_eq_getElem?_getD, List.getElem?_eq_getElem hj]
    rw [← q7, List.getElem?_take_of_lt (by omega)] at hf
    simpa using hf

def zCurve : Array Value := #[.slice none 0 0, .slice none 0 0]
/-- b2, b5: the rows are cloned; b6: the pair is built; b7: the box is made; b8: it is filled. -/
def Clo (B : Nat) (xs ys : List Int) (b2 b5 b6 b7 b8 : Bool) (x y a s : Value) (W : World) : Prop :=
  (b2 = true → CloX B xs x W) ∧ (b5 = true → CloX B ys y W) ∧ (b2 = true → b5 = true → x.ownBlock ≠ y.ownBlock) ∧ (b6 = true → b2 = true ∧ b5 = true ∧ a = .agg #[x, y]) ∧ (b8 = true → b7 = true ∧ b6 = true) ∧
  (b7 = true → ∃ r, s = .pointer (some ⟨r, 0, none⟩) ∧ B ≤ r ∧ W.heap[r]? = some (.cells (if b8 = true then #[x, y] else zCurve) 24 (0, 0)))
section
variable {B : Nat} {xs ys : List Int} {b2 b5 b6 b7 b8 : Bool} {x y a s : Value} {W w2 : World}
theorem Clo.new : Clo B xs ys false false false false false x y a s W := ⟨by simp, by simp, by simp, by simp, by simp, by simp⟩
theorem Clo.step (h : Clo B xs ys b2 b5 b6 b7 b8 x y a s W) (hb : Below W.heap.size W w2) : Clo B xs ys b2 b5 b6 b7 b8 x y a s w2 := by
  obtain ⟨h1, h2, h3, h4, h5, h6⟩ := h
  refine ⟨fun e => (h1 e).step hb, fun e => (h2 e).step hb, h3, h4, h5, fun e => ?_⟩
  obtain ⟨r, q1, q2, q3⟩ := h6 e
  exact ⟨r, q1, q2, blk_step q3 hb⟩
theorem Clo.gx (h : Clo B xs ys true b5 b6 b7 b8 x y a s W) : CloX B xs x W := h.1 rfl
theorem Clo.gy (h : Clo B xs ys b2 true b6 b7 b8 x y a s W) : CloX B ys y W := h.2.1 rfl
theorem Clo.agg (h : Clo B xs ys b2 b5 true b7 b8 x y a s W) : a = .agg #[x, y] := (h.2.2.2.1 rfl).2.2
theorem Clo.box (h : Clo B xs ys b2 b5 b6 true b8 x y a s W) : ∃ r, s = .pointer (some ⟨r, 0, none⟩) ∧ B ≤ r ∧ W.heap[r]? = some (.cells (if b8 = true then #[x, y] else zCurve) 24 (0, 0)) := h.2.2.2.2.2 rfl
theorem Clo.mkX {x2 : Value} (h : Clo B xs ys false b5 b6 b7 b8 x y a s W) (hn : xs ≠ []) (hB : B ≤ W.heap.size) (hb : Below W.heap.size W w2) (ho : IntOwn w2 W.heap.size x2 xs) : Clo B xs ys true b5 b6 b7 b8 x2 y a s w2 := by
  obtain ⟨h1, h2, h3, h4, h5, h6⟩ := h
  have e6 : b6 = false := by cases b6; rfl; exact absurd (h4 rfl).1 (by decide)
  have e8 : b8 = false := by cases b8; rfl; exact absurd ((h5 rfl).2.symm.trans e6) (by decide)
  subst e6 e8
  refine ⟨fun _ => ho.clo hn hB, fun e => (h2 e).step hb, fun _ e c => ?_, by simp, by simp, fun e => ?_⟩
  · obtain ⟨g, c', cur, q1, q2, q3, q4⟩ := h2 e
    obtain ⟨g2, c2, cur2, r1, r2, r3, r4⟩ := ho.clo hn (Nat.le_refl _)
    have := blk_lt q3
    rw [q1, r1] at c
    simp [Value.ownBlock] at c
    omega
  · obtain ⟨r, q1, q2, q3⟩ := h6 e
    exact ⟨r, q1, q2, blk_step q3 hb⟩
theorem Clo.mkY {y2 : Value} (h : Clo B xs ys b2 false b6 b7 b8 x y a s W) (hn : ys ≠ []) (hB : B ≤ W.heap.size) (hb : Below W.heap.size W w2) (ho : IntOwn w2 W.heap.size y2 ys) : Clo B xs ys b2 true b6 b7 b8 x y2 a s w2 := by
  obtain ⟨h1, h2, h3, h4, h5, h6⟩ := h
  have e6 : b6 = false := by cases b6; rfl; exact absurd (h4 rfl).2.1 (by decide)
  have e8 : b8 = false := by cases b8; rfl; exact absurd ((h5 rfl).2.symm.trans e6) (by decide)
  subst e6 e8
  refine ⟨fun e => (h1 e).step hb, fun _ => ho.clo hn hB, fun e _ c => ?_, by simp, by simp, fun e => ?_⟩
  · obtain ⟨g, c', cur, q1, q2, q3, q4⟩ := h1 e
    obtain ⟨g2, c2, cur2, r1, r2, r3, r4⟩ := ho.clo hn (Nat.le_refl _)
    have := blk_lt q3
    rw [q1, r1] at c
    simp [Value.ownBlock] at c
    omega
  · obtain ⟨r, q1, q2, q3⟩ := h6 e
    exact ⟨r, q1, q2, blk_step q3 hb⟩
theorem Clo.mkA (h : Clo B xs ys true true b6 b7 b8 x y a s W) : Clo B xs ys true true true b7 b8 x y (.agg #[x, y]) s W := by
  obtain ⟨h1, h2, h3, h4, h5, h6⟩ := h
  exact ⟨h1, h2, h3, fun _ => ⟨rfl, rfl, rfl⟩, fun e => ⟨(h5 e).1, rfl⟩, h6⟩
theorem Clo.mkS (h : Clo B xs ys b2 b5 b6 false b8 x y a s W) (hB : B ≤ W.heap.size) : Clo B xs ys b2 b5 b6 true b8 x y a (.pointer (some ⟨W.heap.size, 0, none⟩)) (W.alloc (.cells zCurve 24)) := by
  have hb : Below W.heap.size W (W.alloc (.cells zCurve 24)) := (Below.refl _ _).alloc (Nat.le_refl _) _
  obtain ⟨h1, h2, h3, h4, h5, h6⟩ := h
  have e8 : b8 = false := by cases b8; rfl; exact absurd (h5 rfl).1 (by decide)
  subst e8
  exact ⟨fun e => (h1 e).step hb, fun e => (h2 e).step hb, h3, h4, by simp, fun _ => ⟨_, rfl, hB, by simpa using blk_new W (.cells zCurve 24)⟩⟩
theorem CloX.setFar {r o : Nat} {v : Value} {cs : Array Value} (h : CloX B xs x W) (hr : W.heap[r]? = some (.cells cs 24 (0, 0))) : CloX B xs x (W.setCell ⟨r, o, none⟩ v) := by
  obtain ⟨g, c, cur, h1, h2, h3, h4⟩ := h
  refine ⟨g, c, cur, h1, h2, blk_set_other h3 (fun e => ?_), h4⟩
  rw [e, hr] at h3
  simp only [Option.some.injEq, Obj.cells.injEq] at h3
  exact absurd h3.2.1 (by decide)
theorem Clo.mkSt {r : Nat} (h : Clo B xs ys true true true true false x y a (.pointer (some ⟨r, 0, none⟩)) W) : Clo B xs ys true true true true true x y a (.pointer (some ⟨r, 0, none⟩)) ((W.setCell ⟨r, 0, none⟩ x).setCell ⟨r, 1, none⟩ y) := by
  obtain ⟨h1, h2, h3, h4, h5, h6⟩ := h
  obtain ⟨r', q1, q2, q3⟩ := h6 rfl
  simp only [Value.pointer.injEq, Option.some.injEq, Addr.mk.injEq, and_true] at q1
  subst q1
  refine ⟨fun e => ((h1 e).setFar q3).setFar (blk_set q3), fun e => ((h2 e).setFar q3).setFar (blk_set q3), h3, h4, by simp, fun _ => ⟨_, rfl, q2, ?_⟩⟩
  have := blk_set (o := 1) (v := y) (blk_set (o := 0) (v := x) q3)
  simpa [zCurve] using this
theorem CloX.blk (h : CloX B xs x W) : ∃ g c, x = .slice (some ⟨g, 0, none⟩) xs.length c ∧ B ≤ g ∧ IntBlk W g xs := by
  obtain ⟨g, c, cur, h1, h2, h3, h4⟩ := h
  exact ⟨g, c, h1, h2, cur, _, h3, h4⟩
/-- Two rows in new memory, and a box that holds them. -/
def CuBox (B : Nat) (r gx cx gy cy : Nat) (xs ys : List Int) (W : World) : Prop :=
  W.cell? ⟨r, 0, none⟩ = some (.slice (some ⟨gx, 0, none⟩) xs.length cx) ∧ W.cell? ⟨r, 1, none⟩ = some (.slice (some ⟨gy, 0, none⟩) ys.length cy) ∧ IntBlk W gx xs ∧ IntBlk W gy ys ∧ gx ≠ gy ∧ r ≠ gx ∧ r ≠ gy ∧ B ≤ gx ∧ B ≤ gy ∧ B ≤ r
theorem Clo.fin (h : Clo B xs ys true true true true true x y a s W) : ∃ r gx cx gy cy, s = .pointer (some ⟨r, 0, none⟩) ∧ CuBox B r gx cx gy cy xs ys W := by
  obtain ⟨h1, h2, h3, h4, h5, h6⟩ := h
  obtain ⟨r, q1, q2, q3⟩ := h6 rfl
  obtain ⟨gx, cx, cur, x1, x2, x3, x4⟩ := h1 rfl
  obtain ⟨gy, cy, cur2, y1, y2, y3, y4⟩ := h2 rfl
  have hne := h3 rfl rfl
  rw [if_pos rfl] at q3
  refine ⟨r, gx, cx, gy, cy, q1, blk_cell q3 (by rw [x1]; rfl), blk_cell q3 (by rw [y1]; rfl), ⟨cur, _, x3, x4⟩, ⟨cur2, _, y3, y4⟩, ?_, ?_, ?_, x2, y2, q2⟩
  · intro e
    rw [x1, y1, e] at hne
    exact hne rfl
  · intro e
    rw [e, x3] at q3
    simp only [Option.some.injEq, Obj.cells.injEq] at q3
    exact absurd q3.2.1 (by decide)
  · intro e
    rw [e, y3] at q3
    simp only [Option.some.injEq, Obj.cells.injEq] at q3
    exact absurd q3.2.1 (by decide)
end

/-- Cs, and the block p, which may be written. -/
def Kf (w : World) (B : Nat) (l : List (Nat × Nat × Value)) (p : Nat) (W : World) : Prop := Cs w B l W ∧ p < B ∧ ∃ cur T, W.heap[p]? = some (.cells cur T (0, 0))
section
variable {w W w2 : World} {B p : Nat} {l : List (Nat × Nat × Value)}
theorem Kf.at_ {q o : Nat} {v : Value} (h : Kf w B l p W) (hm : (q, o, v) ∈ l) : W.cell? ⟨q, o, none⟩ = some v := h.1.at_ hm
theorem Kf.bel (h : Kf w B l p W) : Below w.heap.size w W := h.1.bel
theorem Kf.step (h : Kf w B l p W) (hb : Below W.heap.size W w2) : Kf w B l p w2 := by
  obtain ⟨h1, h2, cur, T, h3⟩ := h
  exact ⟨h1.step hb, h2, cur, T, blk_step h3 hb⟩
theorem Kf.alloc {o : Obj} (h : Kf w B l p W) : Kf w B l p (W.alloc o) := h.step ((Below.refl _ _).alloc (Nat.le_refl _) _)
theorem Kf.drew (h : Kf w B l p W) : Kf w B l p W.drew := h.step (Below.refl _ _).drew
theorem Kf.drewN {n : Nat} (h : Kf w B l p W) : Kf w B l p (W.drewN n) := h.step (bDrewN (Below.refl _ _))
theorem Kf.set {r o : Nat} {v : Value} (h : Kf w B l p W) (hr : B ≤ r) : Kf w B l p (W.setCell ⟨r, o, none⟩ v) := by
  obtain ⟨h1, h2, cur, T, h3⟩ := h
  exact ⟨h1.set hr, h2, cur, T, blk_set_other h3 (show p ≠ r by omega)⟩
theorem Kf.free {o : Nat} (h : Kf w B l p W) : W.frozen? ⟨p, o, none⟩ = false := by
  obtain ⟨h1, h2, cur, T, h3⟩ := h
  exact blk_free h3
end

end Go.Proofs.Ytkldlmbccdfjdaa
