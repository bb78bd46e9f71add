/-
  A parameter that is a slice of whole numbers, opened.
-/
import Derived.Test.YtgiinciclnekjaaMa
import Derived.ChangeSlices
import Derived.OpenShut
import Derived.ChangeSame
import Derived.ProofKit
set_option linter.unusedSimpArgs false
set_option linter.unusedVariables false
namespace Go.Proofs.Ytgiinciclnekjaa
open Go.ChangeShapes Go.WideShapes Go.RowKit

/-- A slice of numbers of any kind. -/
def NumAt (k : IntKind) (a : Option Addr) (xs : List Int) (W : World) : Prop := xs ≠ [] → ∃ b off, a = some ⟨b, off, none⟩ ∧ b < W.heap.size ∧ ∀ j, j < xs.length → W.cell? ⟨b, off + j, none⟩ = some (.int k (xs.getD j 0))
theorem NumAt.ints {a : Option Addr} {xs : List Int} {W : World} (h : NumAt .i64 a xs W) : IntAt a xs W := h
theorem NumAt.step {k : IntKind} {a : Option Addr} {xs : List Int} {W w2 : World} (h : NumAt k a xs W) (hb : Below W.heap.size W w2) : NumAt k a xs w2 := fun hn => by
  obtain ⟨b, off, rfl, h1, h2⟩ := h hn
  exact ⟨b, off, rfl, Nat.lt_of_lt_of_le h1 hb.size, fun k hk => cell_step (h2 k hk) hb⟩
theorem NumAt.at_ {k : IntKind} {a : Option Addr} {xs : List Int} {W : World} (h : NumAt k a xs W) {j : Nat} (hj : j < xs.length) : ∃ b off, a = some ⟨b, off, none⟩ ∧ W.cell? ⟨b, off + j, none⟩ = some (.int k (xs.getD j 0)) := by
  obtain ⟨b, off, rfl, _, h2⟩ := h (fun e => by rw [e] at hj; simp at hj)
  exact ⟨b, off, rfl, h2 j hj⟩

section
variable {H : Type} {enc : TypeId × Value → H} {W : World} {held : Bool}
theorem nums_open {t e : TypeId} {k : IntKind} {n : Nat} {v : Value} {x : DataW H × List MemPlace} (ht : Try.prog.underlying t = some (.slice e)) (he : Try.prog.underlying e = some (.int k)) (hc : Try.prog.cellsOf e = 1) (h : DataW.trod enc Try.prog W 0 (fun _ => true) held n t [v] = some x) :
    ∃ (a : Option Addr) (c : Nat) (xs : List Int), v = .slice a xs.length c ∧ xs.length ≤ maxLen ∧ (∀ j, j < xs.length → (Lit.int k (xs.getD j 0)).wf = true) ∧ NumAt k a xs W := by
  rcases open_ints ht he hc h with ⟨hcs, _⟩ | ⟨a, len, cap, zs, hcs, hb, hl, hm, hz, hx, hcell, hwf⟩
  · simp only [List.cons.injEq, and_true] at hcs
    exact ⟨none, 0, [], hcs, by decide, fun j hj => absurd hj (by simp), fun hn => absurd rfl hn⟩
  · simp only [List.cons.injEq, and_true] at hcs
    simp only [if_true] at hz
    have hlen : (zs.take len).length = len := by simp; omega
    have hget : ∀ j, j < len → (zs.take len).getD j 0 = zs.getD j 0 := fun j hj => by simp [List.getD_eq_getElem?_getD, List.getElem?_take_of_lt hj]
    refine ⟨some a, cap, zs.take len, by rw [hlen]; exact hcs, by rw [hlen]; omega, fun j hj => ?_, fun hn => ?_⟩
    · rw [hlen] at hj
      rw [hget j hj]
      have hj2 : j < zs.length := by omega
      rw [List.getD_eq_getElem?_getD, List.getElem?_eq_getElem hj2]
      exact hwf _ (List.getElem_mem hj2)
    · have h0 : 0 < len := by
        rcases Nat.eq_zero_or_pos len with e | e
        · subst e; exact absurd (by simp) hn
        · exact e
      obtain ⟨b, off, spot⟩ := a
      have hspot : spot = none := by simpa [Addr.add] using World.cell?_spot (hcell 0 (by omega))
      subst hspot
      have hadd : ∀ j, ((⟨b, off, none⟩ : Addr).add j) = ⟨b, off + j, none⟩ := fun j => by simp [Addr.add]
      have hc0 := hcell 0 (by omega)
      refine ⟨b, off, rfl, ?_, fun k hk => ?_⟩
      · rw [hadd] at hc0
        exact cell_lt hc0
      · rw [hlen] at hk
        rw [hget k hk, ← hadd]
        exact hcell k (by omega)
end
end Go.Proofs.Ytgiinciclnekjaa
