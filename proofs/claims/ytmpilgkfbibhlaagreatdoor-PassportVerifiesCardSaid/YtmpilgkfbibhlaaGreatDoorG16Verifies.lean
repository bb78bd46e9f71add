/-
 add: what it holds on its way.
-/
import Derived.Test.YtmpilgkfbibhlaaGreatDoorG15Verifies
set_option linter.unusedSimpArgs false
set_option linter.unusedVariables false
namespace Go.Proofs.YtmpilgkfbibhlaaGreatDoor
open Go.RowKit Mr
structure OnlyB (T : TypeId) (B off n : Nat) (w W : World) : Prop where
 os : W.os = w.os
 tape : W.tape = w.tape
 output : W.output = w.output
 size : w.heap.size ≤ W.heap.size
 lt : B < w.heap.size
 block : ∀ k, k < w.heap.size → k ≠ B → W.heap[k]? = w.heap[k]?
 cells : ∃ cs cs' : Array Value, w.heap[B]? = some (.cells cs T (0, 0)) ∧ W.heap[B]? = some (.cells cs' T (0, 0)) ∧ cs'.size = cs.size ∧ ∀ i, (i < off ∨ off + n ≤ i) → cs'[i]? = cs[i]?
section
variable {T : TypeId} {B off n : Nat} {w W w2 : World}
theorem OnlyB.start {cs : Array Value} (h : w.heap[B]? = some (.cells cs T (0, 0))) : OnlyB T B off n w w :=
 ⟨rfl, rfl, rfl, Nat.le_refl _, blk_lt h, fun _ _ _ => rfl, cs, cs, h, h, rfl, fun _ _ => rfl⟩
theorem OnlyB.step (h : OnlyB T B off n w W) (hb : Below W.heap.size W w2) : OnlyB T B off n w w2 := by
 obtain ⟨cs, cs', h1, h2, h3, h4⟩ := h.cells
 exact ⟨hb.os.trans h.os, hb.tape.trans h.tape, hb.output.trans h.output, Nat.le_trans h.size hb.size, h.lt, fun k hk hn => (hb.block k (Nat.lt_of_lt_of_le hk h.size)).trans (h.block k hk hn), cs, cs', h1, blk_step h2 hb, h3, h4⟩
theorem OnlyB.set (h : OnlyB T B off n w W) {j : Nat} (hj : j < n) (u : Value) : OnlyB T B off n w (W.setCell ⟨B, off + j, none⟩ u) := by
 obtain ⟨cs, cs', h1, h2, h3, h4⟩ := h.cells
 refine ⟨h.os, h.tape, h.output, by simpa using h.size, h.lt, fun k hk hn => ?_, cs, cs'.setIfInBounds (off + j) u, h1, blk_set h2, by simpa using h3, fun i hi => ?_⟩
 ·rw [Below.heap_setCell _ _ _ _ hn]; exact h.block k hk hn
 ·rw [Array.getElem?_setIfInBounds, if_neg (by omega)]; exact h4 i hi
theorem OnlyB.grown {g : Option Nat} (h : OnlyB T B off n w W) (hg : W.grownBy w2 g) (hr : ∀ k, g = some k → w.heap.size ≤ k) : OnlyB T B off n w w2 := by
 obtain ⟨cs, cs', h1, h2, h3, h4⟩ := h.cells
 have hk : ∀ k, k < w.heap.size → some k ≠ g := fun k hk e => by have := hr k e.symm; omega
 exact ⟨hg.os.trans h.os, hg.tape.trans h.tape, hg.output.trans h.output, Nat.le_trans h.size hg.size, h.lt, fun k hk1 hn => (hg.block k (Nat.lt_of_lt_of_le hk1 h.size) (hk k hk1)).trans (h.block k hk1 hn), cs, cs', h1, (hg.block B (blk_lt h2) (hk B h.lt)).trans h2, h3, h4⟩
theorem SRow.only {v : Value} {l : List ByteArray} (h : SRow v l w) (ho : OnlyB T B off n w W) (hT : T ≠ 9) : SRow v l W := h.keep fun b cs fr e => ho.block b (blk_lt e) (fun c => by
 subst c
 obtain ⟨cs1, cs2, h1, -⟩ := ho.cells
 rw [h1] at e
 simp at e
 exact hT e.2.1)
end
structure AddC (T : TypeId) (B off : Nat) (name : ByteArray) (w : World) (be : Nat) (e : Evt) (x : LifeS) (vm vo : Value) (W : World) : Prop where
 blk : ∃ cs : Array Value, W.heap[B]? = some (.cells cs T (0, 0)) ∧ off + 18 ≤ cs.size ∧ ∀ (j : Nat) (u : Value), (lifeCs name x vm vo)[j]? = some u → cs[off + j]? = some u
 only : OnlyB T B off 18 w W
 box : W.heap[be]? = some (.cells #[.int .i64 e.1, .int .i64 e.2.1, .int .i64 e.2.2.1, .int .i64 e.2.2.2.1, .string e.2.2.2.2.1, .string e.2.2.2.2.2] 29 (0, 0))
 hbe : w.heap.size ≤ be
section
variable {T : TypeId} {B off be : Nat} {name : ByteArray} {w W w2 : World} {e : Evt} {x x' : LifeS} {vm vo vm' vo' : Value}
theorem AddC.ne (h : AddC T B off name w be e x vm vo W) : be ≠ B := by have := h.only.lt; have := h.hbe; omega
theorem AddC.step (h : AddC T B off name w be e x vm vo W) (hb : Below W.heap.size W w2) : AddC T B off name w be e x vm vo w2 := by
 obtain ⟨⟨cs, h1, h2, h3⟩, h4, h5, h6⟩ := h
 exact ⟨⟨cs, blk_step h1 hb, h2, h3⟩, h4.step hb, blk_step h5 hb, h6⟩
theorem AddC.set (h : AddC T B off name w be e x vm vo W) {j : Nat} (u : Value) (hj : j < 18) (hcs : lifeCs name x' vm' vo' = (lifeCs name x vm vo).set j u) : AddC T B off name w be e x' vm' vo' (W.setCell ⟨B, off + j, none⟩ u) := by
 have hne := h.ne
 obtain ⟨⟨cs, h1, h2, h3⟩, h4, h5, h6⟩ := h
 refine ⟨⟨cs.setIfInBounds (off + j) u, blk_set h1, by simpa using h2, fun i v hi => ?_⟩, h4.set hj u, blk_set_other h5 hne, h6⟩
 rw [hcs, List.getElem?_set] at hi
 rw [Array.getElem?_setIfInBounds]
 by_cases c : j = i
 ·subst c
  rw [if_pos rfl] at hi
  split at hi
  ·rw [if_pos rfl, if_pos (by omega)]; exact hi
  ·cases hi
 ·rw [if_neg c] at hi
  rw [if_neg (by omega)]
  exact h3 i v hi
theorem AddC.grown {g : Option Nat} (h : AddC T B off name w be e x vm vo W) (hg : W.grownBy w2 g) (hr : ∀ k, g = some k → w.heap.size ≤ k ∧ k ≠ be) : AddC T B off name w be e x vm vo w2 := by
 have hl := h.only.lt
 obtain ⟨⟨cs, h1, h2, h3⟩, h4, h5, h6⟩ := h
 refine ⟨⟨cs, (hg.block B (blk_lt h1) fun c => ?_).trans h1, h2, h3⟩, h4.grown hg fun k hk => (hr k hk).1, (hg.block be (blk_lt h5) fun c => ?_).trans h5, h6⟩
 ·have := (hr B c.symm).1; omega
 ·exact (hr be c.symm).2 rfl
theorem AddC.cell (h : AddC T B off name w be e x vm vo W) {j : Nat} {u : Value} (hj : (lifeCs name x vm vo)[j]? = some u) : W.cell? ⟨B, off + j, none⟩ = some u := by
 obtain ⟨⟨cs, h1, h2, h3⟩, h4, h5, h6⟩ := h
 exact blk_cell h1 (h3 j u hj)
theorem AddC.free (h : AddC T B off name w be e x vm vo W) (j : Nat) : W.frozen? ⟨B, off + j, none⟩ = false := by
 obtain ⟨⟨cs, h1, h2, h3⟩, h4, h5, h6⟩ := h
 exact blk_free h1
theorem AddC.lt (h : AddC T B off name w be e x vm vo W) : B < W.heap.size := by
 obtain ⟨⟨cs, h1, h2, h3⟩, h4, h5, h6⟩ := h
 exact blk_lt h1
theorem AddC.ev (h : AddC T B off name w be e x vm vo W) : W.cell? ⟨be, 0, none⟩ = some (.int .i64 e.1) ∧ W.cell? ⟨be, 1, none⟩ = some (.int .i64 e.2.1) ∧ W.cell? ⟨be, 2, none⟩ = some (.int .i64 e.2.2.1) ∧ W.cell? ⟨be, 3, none⟩ = some (.int .i64 e.2.2.2.1) ∧ W.cell? ⟨be, 4, none⟩ = some (.string e.2.2.2.2.1) ∧ W.cell? ⟨be, 5, none⟩ = some (.string e.2.2.2.2.2) ∧ be < W.heap.size :=
 ⟨blk_cell h.box rfl, blk_cell h.box rfl, blk_cell h.box rfl, blk_cell h.box rfl, blk_cell h.box rfl, blk_cell h.box rfl, blk_lt h.box⟩
theorem AddC.done (h : AddC T B off name w be e x vm vo W) (hm : SRow vm x.ms W) (ho : SRow vo x.os W) : LifeAt T B off name x vm vo W := by
 obtain ⟨⟨cs, h1, h2, h3⟩, h4, h5, h6⟩ := h
 exact ⟨⟨cs, h1, h3⟩, hm, ho⟩
end
end Go.Proofs.YtmpilgkfbibhlaaGreatDoor
