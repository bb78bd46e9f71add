/-
  The package-level variables of which something is known: the powers of 10, two errors, a length.
-/
import Derived.WalkKit
import Derived.Test.YtpdhkgfdmpofiaaGreatDoorRows
import Derived.Shelf.Strconv.Itoa4
import Derived.KernelRfl
set_option linter.unusedSimpArgs false
set_option linter.unusedVariables false
namespace Go.Proofs.YtpdhkgfdmpofiaaGreatDoor
namespace Sx
open Go.RowKit
/-- The variables' names: the third, the fifth and the sixth one of the row's list. -/
def powN : String := ((Rows.protectTextsRow.laid[2]?).map (·.1)).getD ""
def rngN : String := ((Rows.protectTextsRow.laid[4]?).map (·.1)).getD ""
def synN : String := ((Rows.protectTextsRow.laid[5]?).map (·.1)).getD ""
def maxN : String := (Rows.protectTextsRow.named[5]?).getD ""
noncomputable def powG : Nat := (Tryz.prog.globalNamed powN).getD 0
noncomputable def rngG : Nat := (Tryz.prog.globalNamed rngN).getD 0
noncomputable def synG : Nat := (Tryz.prog.globalNamed synN).getD 0
noncomputable def maxG : Nat := (Tryz.prog.globalNamed maxN).getD 0
theorem powG_is : Tryz.prog.globalNamed powN = some powG := by kernel_rfl
theorem rngG_is : Tryz.prog.globalNamed rngN = some rngG := by kernel_rfl
theorem synG_is : Tryz.prog.globalNamed synN = some synG := by kernel_rfl
noncomputable def Gs : List Nat := [powG, rngG, synG, maxG]
/-- The variable holds an error. -/
def ErrAt (w : World) (n : String) : Prop := ∃ t v, w.var? Tryz.prog n = some #[.iface t v]
/-- The variable holds a number. -/
def MaxAt (w : World) : Prop := ∃ m, w.cell? ⟨maxG, 0, none⟩ = some (.int .i64 m)
def GlobP (w : World) : Prop := Lib.TabIs Tryz.prog w powN .u64 Lib.pow10Tab ∧ ErrAt w rngN ∧ ErrAt w synN ∧ MaxAt w
theorem GlobP.tab {w : World} (h : GlobP w) : Lib.TabIs Tryz.prog w powN .u64 Lib.pow10Tab := h.1
theorem GlobP.max {w : World} (h : GlobP w) : MaxAt w := h.2.2.2
theorem var_kept {w w' : World} {n : String} {g : Nat} {cs : Array Value} (hg : Tryz.prog.globalNamed n = some g) (h : w.var? Tryz.prog n = some cs) (k : w'.heap[g]? = w.heap[g]?) : w'.var? Tryz.prog n = some cs := by
  unfold World.var? at h ⊢
  rw [hg] at h ⊢
  simp only [Option.bind_some] at h ⊢
  rw [k]; exact h
theorem var_lt {w : World} {n : String} {g : Nat} {cs : Array Value} (hg : Tryz.prog.globalNamed n = some g) (h : w.var? Tryz.prog n = some cs) : g < w.heap.size := by
  unfold World.var? at h
  rw [hg] at h
  simp only [Option.bind_some] at h
  rcases Nat.lt_or_ge g w.heap.size with h1 | h1
  · exact h1
  · rw [Array.getElem?_eq_none h1] at h; cases h
theorem GlobP.kept {w w' : World} (h : GlobP w) (k : ∀ g ∈ Gs, w'.heap[g]? = w.heap[g]?) : GlobP w' := by
  obtain ⟨h1, ⟨t2, v2, h2⟩, ⟨t3, v3, h3⟩, ⟨m, h4⟩⟩ := h
  have k1 := k powG (by unfold Gs; simp)
  have k2 := k rngG (by unfold Gs; simp)
  have k3 := k synG (by unfold Gs; simp)
  have k4 := k maxG (by unfold Gs; simp)
  exact ⟨var_kept powG_is h1 k1, ⟨t2, v2, var_kept rngG_is h2 k2⟩, ⟨t3, v3, var_kept synG_is h3 k3⟩, ⟨m, (World.cell?_of_block (w := w) (a := ⟨maxG, 0, none⟩) k4).trans h4⟩⟩
/-- They hold what the program's text lays; they lie in memory that may not be written. -/
def GlobW (M : Nat → Prop) (w : World) : Prop := GlobP w ∧ ∀ g ∈ Gs, ¬ M g ∧ g < w.heap.size
def Glob0 (w : World) : Prop := GlobW (fun k => w.heap.size ≤ k) w
theorem glob0_of {w : World} (h : GlobP w) : Glob0 w := ⟨h, fun g hg => by
  obtain ⟨h1, ⟨t2, v2, h2⟩, ⟨t3, v3, h3⟩, ⟨m, h4⟩⟩ := h
  have hlt : g < w.heap.size := by
    unfold Gs at hg
    simp only [List.mem_cons, List.not_mem_nil, or_false] at hg
    rcases hg with rfl | rfl | rfl | rfl
    · exact var_lt powG_is h1
    · exact var_lt rngG_is h2
    · exact var_lt synG_is h3
    · exact World.block_lt_of_cell? _ _ h4
  exact ⟨by omega, hlt⟩⟩
theorem gstep {w w' : World} (h : Glob0 w) (hb : Below w.heap.size w w') : Glob0 w' :=
  ⟨h.1.kept fun g hg => hb.block g (h.2 g hg).2, fun g hg => ⟨by have := (h.2 g hg).2; have := hb.size; omega, Nat.lt_of_lt_of_le (h.2 g hg).2 hb.size⟩⟩
end Sx
end Go.Proofs.YtpdhkgfdmpofiaaGreatDoor
