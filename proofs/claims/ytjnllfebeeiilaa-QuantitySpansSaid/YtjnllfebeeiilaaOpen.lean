/-
  Opening an argument that is a struct of structs: each leaf is an integer of its kind.
-/
import Derived.Test.YtjnllfebeeiilaaRows
import Derived.ProofKit
set_option linter.unusedSimpArgs false
set_option linter.unusedVariables false
namespace Go.Proofs.Ytjnllfebeeiilaa
open Go.ChangeShapes Go.WideShapes Go.RowKit

section
variable {H : Type} {enc : TypeId × Value → H} {P : Program} {w : World} {base : Nat} {spare : Nat → Bool} {held : Bool} {t : TypeId} {cs : List Value}
/-- The cells of a field read as the field's type. -/
theorem trod_fld {fs : Array Field} (ht : P.underlying t = some (.struct fs)) (h : ∃ n x, DataW.trod enc P w base spare held n t cs = some x) (j : Nat) (f : Field) (hj : fs[j]? = some f) :
    ∃ n x, DataW.trod enc P w base spare held n f.type ((cs.drop f.offset).take (P.cellsOf f.type)) = some x := by
  obtain ⟨n, x, h⟩ := h
  obtain ⟨xs, m, _, _, _, hl, hg⟩ := DataW.trod_struct ht h
  have h1 := hg j f hj
  have hlt : j < xs.length := by rw [hl]; exact (Array.getElem?_eq_some_iff.1 hj).1
  rw [List.getElem?_eq_getElem hlt] at h1
  exact ⟨m, _, h1⟩
/-- The same, the field's type and place and the type's size named. -/
theorem trod_at {fs : Array Field} (ht : P.underlying t = some (.struct fs)) (h : ∃ n x, DataW.trod enc P w base spare held n t cs = some x) (j ty off k : Nat) (hj : (fs[j]?).map (fun f => (f.type, f.offset)) = some (ty, off)) (hk : P.cellsOf ty = k) :
    ∃ n x, DataW.trod enc P w base spare held n ty ((cs.drop off).take k) = some x := by
  cases hf : fs[j]? with
  | none => rw [hf] at hj; cases hj
  | some f =>
    rw [hf] at hj
    simp only [Option.map_some, Option.some.injEq, Prod.mk.injEq] at hj
    obtain ⟨rfl, rfl⟩ := hj
    subst hk
    exact trod_fld ht h j f hf
theorem trod_leaf {k : IntKind} (ht : P.underlying t = some (.int k)) (h : ∃ n x, DataW.trod enc P w base spare held n t cs = some x) : ∃ v, cs = [.int k v] ∧ (Lit.int k v).wf = true := by
  obtain ⟨n, x, h⟩ := h
  obtain ⟨v, h1, _, h3⟩ := DataW.trod_int ht h
  exact ⟨v, h1, h3⟩
end
theorem array7 {cs : Array Value} (h : cs.size = 7) : ∃ c0 c1 c2 c3 c4 c5 c6, cs = #[c0, c1, c2, c3, c4, c5, c6] := by
  obtain ⟨l⟩ := cs
  match l, h with
  | [c0, c1, c2, c3, c4, c5, c6], _ => exact ⟨c0, c1, c2, c3, c4, c5, c6, rfl⟩

end Go.Proofs.Ytjnllfebeeiilaa
