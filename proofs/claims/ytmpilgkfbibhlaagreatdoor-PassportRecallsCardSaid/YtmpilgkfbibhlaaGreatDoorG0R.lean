/-
 Short names.
-/
import Derived.RowKit
import Derived.WalkKit
import Derived.WalkSpells
import Derived.WalkLawsBesides
import Derived.Deep.QuietTactic
import Derived.BigQuiet
import Derived.Lib.Hide
import Derived.Deep.RegionHeld3
import Derived.Test.YtmpilgkfbibhlaaGreatDoorRows
import Derived.Shelf.Strconv.Itoa4
import Derived.KernelRfl
set_option linter.unusedSimpArgs false
set_option linter.unusedVariables false
namespace Go.Proofs.YtmpilgkfbibhlaaGreatDoor
theorem sl1 {α : Type} (l : List α) (i : Nat) (a : α) : l.toArray.setIfInBounds i a = (l.set i a).toArray := List.setIfInBounds_toArray ..
theorem sl2 {α : Type} (a b : α) (l : List α) : (a :: l).set 0 b = b :: l := rfl
theorem sl3 {α : Type} (a b : α) (l : List α) (n : Nat) : (a :: l).set (n + 1) b = a :: l.set n b := rfl
theorem sl4 {α : Type} (n : Nat) (a : α) : ([] : List α).set n a = [] := rfl
theorem llS {α : Type} {l : List α} {n : Nat} (h : l.length = n + 1) : ∃ a l', l = a :: l' ∧ l'.length = n := by
 cases l with
 | nil => cases h
 | cons a l' => exact ⟨a, l', rfl, Nat.succ.inj h⟩
theorem ll1 {α β : Type} {l : List α} {p0 : β} (h : l.length = [p0].length) : ∃ x0, l = [x0] := by
 obtain ⟨x0, l0, rfl, h0⟩ := llS h
 obtain rfl := List.length_eq_zero_iff.1 h0
 exact ⟨x0, rfl⟩
theorem ll2 {α β : Type} {l : List α} {p0 p1 : β} (h : l.length = [p0, p1].length) : ∃ x0 x1, l = [x0, x1] := by
 obtain ⟨x0, l0, rfl, h0⟩ := llS h
 obtain ⟨x1, l1, rfl, h1⟩ := llS h0
 obtain rfl := List.length_eq_zero_iff.1 h1
 exact ⟨x0, x1, rfl⟩
theorem ll3 {α β : Type} {l : List α} {p0 p1 p2 : β} (h : l.length = [p0, p1, p2].length) : ∃ x0 x1 x2, l = [x0, x1, x2] := by
 obtain ⟨x0, l0, rfl, h0⟩ := llS h
 obtain ⟨x1, l1, rfl, h1⟩ := llS h0
 obtain ⟨x2, l2, rfl, h2⟩ := llS h1
 obtain rfl := List.length_eq_zero_iff.1 h2
 exact ⟨x0, x1, x2, rfl⟩
theorem ll4 {α β : Type} {l : List α} {p0 p1 p2 p3 : β} (h : l.length = [p0, p1, p2, p3].length) : ∃ x0 x1 x2 x3, l = [x0, x1, x2, x3] := by
 obtain ⟨x0, l0, rfl, h0⟩ := llS h
 obtain ⟨x1, l1, rfl, h1⟩ := llS h0
 obtain ⟨x2, l2, rfl, h2⟩ := llS h1
 obtain ⟨x3, l3, rfl, h3⟩ := llS h2
 obtain rfl := List.length_eq_zero_iff.1 h3
 exact ⟨x0, x1, x2, x3, rfl⟩
theorem ll5 {α β : Type} {l : List α} {p0 p1 p2 p3 p4 : β} (h : l.length = [p0, p1, p2, p3, p4].length) : ∃ x0 x1 x2 x3 x4, l = [x0, x1, x2, x3, x4] := by
 obtain ⟨x0, l0, rfl, h0⟩ := llS h
 obtain ⟨x1, l1, rfl, h1⟩ := llS h0
 obtain ⟨x2, l2, rfl, h2⟩ := llS h1
 obtain ⟨x3, l3, rfl, h3⟩ := llS h2
 obtain ⟨x4, l4, rfl, h4⟩ := llS h3
 obtain rfl := List.length_eq_zero_iff.1 h4
 exact ⟨x0, x1, x2, x3, x4, rfl⟩
theorem ll6 {α β : Type} {l : List α} {p0 p1 p2 p3 p4 p5 : β} (h : l.length = [p0, p1, p2, p3, p4, p5].length) : ∃ x0 x1 x2 x3 x4 x5, l = [x0, x1, x2, x3, x4, x5] := by
 obtain ⟨x0, l0, rfl, h0⟩ := llS h
 obtain ⟨x1, l1, rfl, h1⟩ := llS h0
 obtain ⟨x2, l2, rfl, h2⟩ := llS h1
 obtain ⟨x3, l3, rfl, h3⟩ := llS h2
 obtain ⟨x4, l4, rfl, h4⟩ := llS h3
 obtain ⟨x5, l5, rfl, h5⟩ := llS h4
 obtain rfl := List.length_eq_zero_iff.1 h5
 exact ⟨x0, x1, x2, x3, x4, x5, rfl⟩
theorem ll7 {α β : Type} {l : List α} {p0 p1 p2 p3 p4 p5 p6 : β} (h : l.length = [p0, p1, p2, p3, p4, p5, p6].length) : ∃ x0 x1 x2 x3 x4 x5 x6, l = [x0, x1, x2, x3, x4, x5, x6] := by
 obtain ⟨x0, l0, rfl, h0⟩ := llS h
 obtain ⟨x1, l1, rfl, h1⟩ := llS h0
 obtain ⟨x2, l2, rfl, h2⟩ := llS h1
 obtain ⟨x3, l3, rfl, h3⟩ := llS h2
 obtain ⟨x4, l4, rfl, h4⟩ := llS h3
 obtain ⟨x5, l5, rfl, h5⟩ := llS h4
 obtain ⟨x6, l6, rfl, h6⟩ := llS h5
 obtain rfl := List.length_eq_zero_iff.1 h6
 exact ⟨x0, x1, x2, x3, x4, x5, x6, rfl⟩
theorem ll8 {α β : Type} {l : List α} {p0 p1 p2 p3 p4 p5 p6 p7 : β} (h : l.length = [p0, p1, p2, p3, p4, p5, p6, p7].length) : ∃ x0 x1 x2 x3 x4 x5 x6 x7, l = [x0, x1, x2, x3, x4, x5, x6, x7] := by
 obtain ⟨x0, l0, rfl, h0⟩ := llS h
 obtain ⟨x1, l1, rfl, h1⟩ := llS h0
 obtain ⟨x2, l2, rfl, h2⟩ := llS h1
 obtain ⟨x3, l3, rfl, h3⟩ := llS h2
 obtain ⟨x4, l4, rfl, h4⟩ := llS h3
 obtain ⟨x5, l5, rfl, h5⟩ := llS h4
 obtain ⟨x6, l6, rfl, h6⟩ := llS h5
 obtain ⟨x7, l7, rfl, h7⟩ := llS h6
 obtain rfl := List.length_eq_zero_iff.1 h7
 exact ⟨x0, x1, x2, x3, x4, x5, x6, x7, rfl⟩
theorem ll9 {α β : Type} {l : List α} {p0 p1 p2 p3 p4 p5 p6 p7 p8 : β} (h : l.length = [p0, p1, p2, p3, p4, p5, p6, p7, p8].length) : ∃ x0 x1 x2 x3 x4 x5 x6 x7 x8, l = [x0, x1, x2, x3, x4, x5, x6, x7, x8] := by
 obtain ⟨x0, l0, rfl, h0⟩ := llS h
 obtain ⟨x1, l1, rfl, h1⟩ := llS h0
 obtain ⟨x2, l2, rfl, h2⟩ := llS h1
 obtain ⟨x3, l3, rfl, h3⟩ := llS h2
 obtain ⟨x4, l4, rfl, h4⟩ := llS h3
 obtain ⟨x5, l5, rfl, h5⟩ := llS h4
 obtain ⟨x6, l6, rfl, h6⟩ := llS h5
 obtain ⟨x7, l7, rfl, h7⟩ := llS h6
 obtain ⟨x8, l8, rfl, h8⟩ := llS h7
 obtain rfl := List.length_eq_zero_iff.1 h8
 exact ⟨x0, x1, x2, x3, x4, x5, x6, x7, x8, rfl⟩
theorem ll10 {α β : Type} {l : List α} {p0 p1 p2 p3 p4 p5 p6 p7 p8 p9 : β} (h : l.length = [p0, p1, p2, p3, p4, p5, p6, p7, p8, p9].length) : ∃ x0 x1 x2 x3 x4 x5 x6 x7 x8 x9, l = [x0, x1, x2, x3, x4, x5, x6, x7, x8, x9] := by
 obtain ⟨x0, l0, rfl, h0⟩ := llS h
 obtain ⟨x1, l1, rfl, h1⟩ := llS h0
 obtain ⟨x2, l2, rfl, h2⟩ := llS h1
 obtain ⟨x3, l3, rfl, h3⟩ := llS h2
 obtain ⟨x4, l4, rfl, h4⟩ := llS h3
 obtain ⟨x5, l5, rfl, h5⟩ := llS h4
 obtain ⟨x6, l6, rfl, h6⟩ := llS h5
 obtain ⟨x7, l7, rfl, h7⟩ := llS h6
 obtain ⟨x8, l8, rfl, h8⟩ := llS h7
 obtain ⟨x9, l9, rfl, h9⟩ := llS h8
 obtain rfl := List.length_eq_zero_iff.1 h9
 exact ⟨x0, x1, x2, x3, x4, x5, x6, x7, x8, x9, rfl⟩
theorem ll11 {α β : Type} {l : List α} {p0 p1 p2 p3 p4 p5 p6 p7 p8 p9 p10 : β} (h : l.length = [p0, p1, p2, p3, p4, p5, p6, p7, p8, p9, p10].length) : ∃ x0 x1 x2 x3 x4 x5 x6 x7 x8 x9 x10, l = [x0, x1, x2, x3, x4, x5, x6, x7, x8, x9, x10] := by
 obtain ⟨x0, l0, rfl, h0⟩ := llS h
 obtain ⟨x1, l1, rfl, h1⟩ := llS h0
 obtain ⟨x2, l2, rfl, h2⟩ := llS h1
 obtain ⟨x3, l3, rfl, h3⟩ := llS h2
 obtain ⟨x4, l4, rfl, h4⟩ := llS h3
 obtain ⟨x5, l5, rfl, h5⟩ := llS h4
 obtain ⟨x6, l6, rfl, h6⟩ := llS h5
 obtain ⟨x7, l7, rfl, h7⟩ := llS h6
 obtain ⟨x8, l8, rfl, h8⟩ := llS h7
 obtain ⟨x9, l9, rfl, h9⟩ := llS h8
 obtain ⟨x10, l10, rfl, h10⟩ := llS h9
 obtain rfl := List.length_eq_zero_iff.1 h10
 exact ⟨x0, x1, x2, x3, x4, x5, x6, x7, x8, x9, x10, rfl⟩
theorem ll12 {α β : Type} {l : List α} {p0 p1 p2 p3 p4 p5 p6 p7 p8 p9 p10 p11 : β} (h : l.length = [p0, p1, p2, p3, p4, p5, p6, p7, p8, p9, p10, p11].length) : ∃ x0 x1 x2 x3 x4 x5 x6 x7 x8 x9 x10 x11, l = [x0, x1, x2, x3, x4, x5, x6, x7, x8, x9, x10, x11] := by
 obtain ⟨x0, l0, rfl, h0⟩ := llS h
 obtain ⟨x1, l1, rfl, h1⟩ := llS h0
 obtain ⟨x2, l2, rfl, h2⟩ := llS h1
 obtain ⟨x3, l3, rfl, h3⟩ := llS h2
 obtain ⟨x4, l4, rfl, h4⟩ := llS h3
 obtain ⟨x5, l5, rfl, h5⟩ := llS h4
 obtain ⟨x6, l6, rfl, h6⟩ := llS h5
 obtain ⟨x7, l7, rfl, h7⟩ := llS h6
 obtain ⟨x8, l8, rfl, h8⟩ := llS h7
 obtain ⟨x9, l9, rfl, h9⟩ := llS h8
 obtain ⟨x10, l10, rfl, h10⟩ := llS h9
 obtain ⟨x11, l11, rfl, h11⟩ := llS h10
 obtain rfl := List.length_eq_zero_iff.1 h11
 exact ⟨x0, x1, x2, x3, x4, x5, x6, x7, x8, x9, x10, x11, rfl⟩
end Go.Proofs.YtmpilgkfbibhlaaGreatDoor
namespace Go.Proofs.YtmpilgkfbibhlaaGreatDoor
open Go.RowKit
/-! Contracts that leave the world alone, in a region that draws its order (behind a draw, or behind two). -/
/-! What a call leaves of memory. -/
theorem bAlloc {w b : World} (h : Below w.heap.size w b) (o : Obj) : Below w.heap.size w (b.alloc o) := h.alloc h.size o
theorem bStep {w b c : World} (h : Below w.heap.size w b) (k : Below b.heap.size b c) : Below w.heap.size w c := h.trans (k.mono h.size)
theorem bSet {w b : World} (h : Below w.heap.size w b) {p : Addr} (hp : w.heap.size ≤ p.block) (v : Value) : Below w.heap.size w (b.setCell p v) := h.setCell hp v
theorem bDrew {B : Nat} {w b : World} (h : Below B w b) : Below B w b.drew := h.drew
theorem bDrewN {B : Nat} {w b : World} {n : Nat} (h : Below B w b) : Below B w (b.drewN n) := ⟨h.os, h.tape, h.output, h.size, h.block⟩
/-! A block that is known whole: behind a store, a new block, a draw. -/
theorem blk_set {w : World} {b o : Nat} {v : Value} {cs : Array Value} {t : TypeId} {fr : Nat × Nat} (h : w.heap[b]? = some (.cells cs t fr)) :
  (w.setCell ⟨b, o, none⟩ v).heap[b]? = some (.cells (cs.setIfInBounds o v) t fr) := by
 simp [World.setCell, Array.getElem?_modify, h]
theorem blk_set_other {w : World} {b : Nat} {p : Addr} {v : Value} {x : Obj} (h : w.heap[b]? = some x) (hne : b ≠ p.block) : (w.setCell p v).heap[b]? = some x :=
 (Below.heap_setCell w p v b hne).trans h
theorem blk_lt {w : World} {b : Nat} {x : Obj} (h : w.heap[b]? = some x) : b < w.heap.size := by
 rcases Nat.lt_or_ge b w.heap.size with h1 | h1
 ·exact h1
 ·rw [Array.getElem?_eq_none h1] at h; cases h
theorem blk_new (w : World) (o : Obj) : (w.alloc o).heap[w.heap.size]? = some o := by
 show (w.heap.push o)[w.heap.size]? = _
 simp
theorem blk_below {B : Nat} {w w1 : World} {b : Nat} {x : Obj} (h : w.heap[b]? = some x) (hb : Below B w w1) (hB : b < B) : w1.heap[b]? = some x := (hb.block b hB).trans h
theorem blk_step {w w1 : World} {b : Nat} {x : Obj} (h : w.heap[b]? = some x) (hb : Below w.heap.size w w1) : w1.heap[b]? = some x := blk_below h hb (blk_lt h)
theorem blk_cell {w : World} {b o : Nat} {cs : Array Value} {t : TypeId} {fr : Nat × Nat} {v : Value} (h : w.heap[b]? = some (.cells cs t fr)) (hv : cs[o]? = some v) : w.cell? ⟨b, o, none⟩ = some v := by
 simp [World.cell?, h, hv]
theorem blk_free {w : World} {b o : Nat} {cs : Array Value} {t : TypeId} (h : w.heap[b]? = some (.cells cs t (0, 0))) : w.frozen? ⟨b, o, none⟩ = false := by
 simp [World.frozen?, h]
/-! Facts on cells that a region keeps: behind a call, a new block, a draw. -/
theorem cell_lt {W : World} {p : Addr} {v : Value} (h : W.cell? p = some v) : p.block < W.heap.size := by
 rcases Nat.lt_or_ge p.block W.heap.size with h1 | h1
 ·exact h1
 ·simp [World.cell?, Array.getElem?_eq_none h1] at h
theorem cell_step {W w2 : World} {p : Addr} {v : Value} (h : W.cell? p = some v) (hb : Below W.heap.size W w2) : w2.cell? p = some v := (hb.cell (cell_lt h)).trans h
end Go.Proofs.YtmpilgkfbibhlaaGreatDoor
namespace Go.Proofs.YtmpilgkfbibhlaaGreatDoor
namespace Sx
open Go.RowKit
def powN : String := ((Rows.passportVerifiesRow.laid[2]?).map (·.1)).getD ""
def rngN : String := ((Rows.passportVerifiesRow.laid[3]?).map (·.1)).getD ""
def synN : String := ((Rows.passportVerifiesRow.laid[4]?).map (·.1)).getD ""
def maxN : String := (Rows.passportVerifiesRow.named[0]?).getD ""
noncomputable def powG : Nat := (Tryz.prog.globalNamed powN).getD 0
noncomputable def rngG : Nat := (Tryz.prog.globalNamed rngN).getD 0
noncomputable def synG : Nat := (Tryz.prog.globalNamed synN).getD 0
noncomputable def maxG : Nat := (Tryz.prog.globalNamed maxN).getD 0
theorem powG_is : Tryz.prog.globalNamed powN = some powG := by kernel_rfl
theorem rngG_is : Tryz.prog.globalNamed rngN = some rngG := by kernel_rfl
theorem synG_is : Tryz.prog.globalNamed synN = some synG := by kernel_rfl
noncomputable def Gs : List Nat := [powG, rngG, synG, maxG]
def ErrAt (w : World) (n : String) : Prop := ∃ t v, w.var? Tryz.prog n = some #[.iface t v]
def MaxAt (w : World) : Prop := ∃ m, w.cell? ⟨maxG, 0, none⟩ = some (.int .i64 m)
def GlobP (w : World) : Prop := Lib.TabIs Tryz.prog w powN .u64 Lib.pow10Tab ∧ ErrAt w rngN ∧ ErrAt w synN ∧ MaxAt w
theorem GlobP.tab {w : World} (h : GlobP w) : Lib.TabIs Tryz.prog w powN .u64 Lib.pow10Tab := h.1
theorem var_kept {w w' : World} {n : String} {g : Nat} {cs : Array Value} (hg : Tryz.prog.globalNamed n = some g) (h : w.var? Tryz.prog n = some cs) (k : w'.heap[g]? = w.heap[g]?) : w'.var? Tryz.prog n = some cs := by
 unfold World.var? at h ⊢
 rw [hg] at h ⊢
 simp only [Option.bind_some] at h ⊢
 rw [k]; exact h
theorem var_lt {w : World} {n : String} {g : Nat} {cs : Array Value} (hg : Tryz.prog.globalNamed n = some g) (h : w.var? Tryz.prog n = some cs) : g < w.heap.size := by
 unfold World.var? at h
 rw [hg] at h
 simp only [Option.bind_some] at h
 rcases Nat.lt_or_ge g w.heap.size with h1 | h1
 ·exact h1
 ·rw [Array.getElem?_eq_none h1] at h; cases h
theorem GlobP.kept {w w' : World} (h : GlobP w) (k : ∀ g ∈ Gs, w'.heap[g]? = w.heap[g]?) : GlobP w' := by
 obtain ⟨h1, ⟨t2, v2, h2⟩, ⟨t3, v3, h3⟩, ⟨m, h4⟩⟩ := h
 have k1 := k powG (by unfold Gs; simp)
 have k2 := k rngG (by unfold Gs; simp)
 have k3 := k synG (by unfold Gs; simp)
 have k4 := k maxG (by unfold Gs; simp)
 exact ⟨var_kept powG_is h1 k1, ⟨t2, v2, var_kept rngG_is h2 k2⟩, ⟨t3, v3, var_kept synG_is h3 k3⟩, ⟨m, (World.cell?_of_block (w := w) (a := ⟨maxG, 0, none⟩) k4).trans h4⟩⟩
def GlobW (M : Nat → Prop) (w : World) : Prop := GlobP w ∧ ∀ g ∈ Gs, ¬ M g ∧ g < w.heap.size
def Glob0 (w : World) : Prop := GlobW (fun k => w.heap.size ≤ k) w
theorem glob0_of {w : World} (h : GlobP w) : Glob0 w := ⟨h, fun g hg => by
 obtain ⟨h1, ⟨t2, v2, h2⟩, ⟨t3, v3, h3⟩, ⟨m, h4⟩⟩ := h
 have hlt : g < w.heap.size := by
  unfold Gs at hg
  simp only [List.mem_cons, List.not_mem_nil, or_false] at hg
  rcases hg with rfl | rfl | rfl | rfl
  ·exact var_lt powG_is h1
  ·exact var_lt rngG_is h2
  ·exact var_lt synG_is h3
  ·exact World.block_lt_of_cell? _ _ h4
 exact ⟨by omega, hlt⟩⟩
theorem gstep {w w' : World} (h : Glob0 w) (hb : Below w.heap.size w w') : Glob0 w' :=
 ⟨h.1.kept fun g hg => hb.block g (h.2 g hg).2, fun g hg => ⟨by have := (h.2 g hg).2; have := hb.size; omega, Nat.lt_of_lt_of_le (h.2 g hg).2 hb.size⟩⟩
end Sx
end Go.Proofs.YtmpilgkfbibhlaaGreatDoor
