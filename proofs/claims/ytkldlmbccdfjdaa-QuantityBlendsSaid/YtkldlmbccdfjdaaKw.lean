/-
  A curve opened.
-/
import Derived.Test.YtkldlmbccdfjdaaCe
import Derived.ChangeSlices
import Derived.OpenShut
import Derived.ChangeSame
import Derived.ProofKit
set_option linter.unusedSimpArgs false
set_option linter.unusedVariables false
namespace Go.Proofs.Ytkldlmbccdfjdaa
open Go.ChangeShapes Go.WideShapes Go.RowKit
section
variable {H : Type} {enc : TypeId × Value → H} {W : World} {held : Bool} {base : Nat}
theorem ints_open {t e : TypeId} {n : Nat} {v : Value} {x : DataW H × List MemPlace} (ht : Try.prog.underlying t = some (.slice e)) (he : Try.prog.underlying e = some (.int .i64)) (hc : Try.prog.cellsOf e = 1) (h : DataW.trod enc Try.prog W 0 (fun _ => true) held n t [v] = some x) :
    ∃ (a : Option Addr) (c : Nat) (m : List Int), v = .slice a m.length c ∧ IntAt a m W := by
  rcases open_ints ht he hc h with ⟨hcs, _⟩ | ⟨a, len, cap, zs, hcs, hb, hl, hm, hz, hx, hcell, hwf⟩
  · simp only [List.cons.injEq, and_true] at hcs
    exact ⟨none, 0, [], hcs, fun hn => absurd rfl hn⟩
  · simp only [List.cons.injEq, and_true] at hcs
    simp only [if_true] at hz
    have hlen : (zs.take len).length = len := by simp; omega
    refine ⟨some a, cap, zs.take len, by rw [hlen]; exact hcs, fun hn => ?_⟩
    have h0 : 0 < len := by
      rcases Nat.eq_zero_or_pos len with e | e
      · subst e; exact absurd (by simp) hn
      · exact e
    obtain ⟨b, off, spot⟩ := a
    have hspot : spot = none := by simpa [Addr.add] using World.cell?_spot (hcell 0 (by omega))
    subst hspot
    have hadd : ∀ j, ((⟨b, off, none⟩ : Addr).add j) = ⟨b, off + j, none⟩ := fun j => by simp [Addr.add]
    have hc0 := hcell 0 (by omega)
    refine ⟨b, off, rfl, ?_, fun k hk => ?_⟩
    · rw [hadd] at hc0
      exact cell_lt hc0
    · rw [hlen] at hk
      have h1 := hcell k (by omega)
      rw [hadd] at h1
      have e1 : (zs.take len).getD k 0 = zs.getD k 0 := by simp [List.getD_eq_getElem?_getD, List.getElem?_take_of_lt hk]
      rw [e1]
      exact h1
theorem list2 : ∀ {l : List Value}, l.length = 2 → ∃ c0 c1 : Value, l = [c0, c1]
  | [c0, c1], _ => ⟨c0, c1, rfl⟩
set_option maxRecDepth 100000 in
theorem curve_open {v : Value} {d : DataW H} {p : List MemPlace} (hv : Value.okWide Try.prog W .any base 24 v) (h : DataW.Trod enc Try.prog W 0 (fun _ => true) held 24 v d p) :
    ∃ (a b : Option Addr) (ca cb : Nat) (xs ys : List Int), v = .agg #[.slice a xs.length ca, .slice b ys.length cb] ∧ IntAt a xs W ∧ IntAt b ys W := by
  obtain ⟨cs, rfl, hsz⟩ := okWide_struct Try.underlying24 hv
  have h2 : Try.prog.cellsOf 24 = 2 := by kernel_rfl
  obtain ⟨l⟩ := cs
  rw [h2] at hsz
  obtain ⟨c0, c1, rfl⟩ := list2 (l := l) (by simpa using hsz)
  obtain ⟨n, ht⟩ := h
  obtain ⟨xs, m, -, -, -, hx, hall⟩ := DataW.trod_struct Try.underlying24 (by simpa [Value.cells] using ht)
  have e1 : Try.prog.cellsOf 22 = 1 := by kernel_rfl
  have hx4 : ∀ j, j < 2 → ∃ x, xs[j]? = some x := fun j hj => ⟨xs[j]'(by rw [hx]; exact hj), List.getElem?_eq_getElem _⟩
  obtain ⟨y0, q0⟩ := hx4 0 (by decide)
  obtain ⟨y1, q1⟩ := hx4 1 (by decide)
  have h9 := hall 0 _ rfl
  have h8 := hall 1 _ rfl
  rw [q0] at h9
  rw [q1] at h8
  have g9 : DataW.trod enc Try.prog W 0 (fun _ => true) held m 22 (([c0, c1].drop 0).take (Try.prog.cellsOf 22)) = some y0 := h9
  have g8 : DataW.trod enc Try.prog W 0 (fun _ => true) held m 22 (([c0, c1].drop 1).take (Try.prog.cellsOf 22)) = some y1 := h8
  rw [e1] at g9 g8
  obtain ⟨a, ca, xs', e2, hA⟩ := ints_open (v := c0) Try.underlying22 Try.underlying2 (by kernel_rfl) g9
  obtain ⟨b, cb, ys', e3, hB⟩ := ints_open (v := c1) Try.underlying22 Try.underlying2 (by kernel_rfl) g8
  subst e2 e3
  exact ⟨a, b, ca, cb, xs', ys', rfl, hA, hB⟩
end
end Go.Proofs.Ytkldlmbccdfjdaa
