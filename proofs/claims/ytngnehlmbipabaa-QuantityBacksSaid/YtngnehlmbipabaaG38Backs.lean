/-
  What the parameters' types say of their numbers.
-/
import Derived.Test.YtngnehlmbipabaaG14Backs
import Derived.Test.YtngnehlmbipabaaG34Backs
import Derived.Deep.Slices
import Derived.Lib.SmallJoins
import Derived.OpenShut
import Derived.ChangeSame
set_option linter.unusedSimpArgs false
set_option linter.unusedVariables false
namespace Go.Proofs.Ytngnehlmbipabaa
open Go.RowKit

theorem in16 {a : Int} (h : (Lit.int .i16 a).wf = true) : -32768 ≤ a ∧ a ≤ 32767 := by
  simp only [Lit.wf, Bool.and_eq_true, decide_eq_true_eq] at h
  exact h
theorem in32 {a : Int} (h : (Lit.int .i32 a).wf = true) : -2147483648 ≤ a ∧ a ≤ 2147483647 := by
  simp only [Lit.wf, Bool.and_eq_true, decide_eq_true_eq] at h
  exact h
theorem in64 {a : Int} (h : (Lit.int .i64 a).wf = true) : -9223372036854775808 ≤ a ∧ a ≤ 9223372036854775807 := by
  simp only [Lit.wf, Bool.and_eq_true, decide_eq_true_eq] at h
  exact h
theorem inu8 {a : Int} (h : (Lit.int .u8 a).wf = true) : 0 ≤ a ∧ a ≤ 255 := by
  simp only [Lit.wf, Bool.and_eq_true, decide_eq_true_eq] at h
  exact h
theorem inu16 {a : Int} (h : (Lit.int .u16 a).wf = true) : 0 ≤ a ∧ a ≤ 65535 := by
  simp only [Lit.wf, Bool.and_eq_true, decide_eq_true_eq] at h
  exact h

end Go.Proofs.Ytngnehlmbipabaa

/-
  A parameter that is a slice of steps, opened.
-/
set_option linter.unusedSimpArgs false
set_option linter.unusedVariables false
namespace Go.Proofs.Ytngnehlmbipabaa
open Go.ChangeShapes Go.WideShapes Go.ChangeAt Go.RowKit Go.Deep
section
variable {H : Type} {enc : TypeId × Value → H} {W : World} {spare : Nat → Bool} {held : Bool}
set_option maxRecDepth 20000 in
theorem step_cells {n : Nat} {cs : List Value} {x : DataW H × List MemPlace} (h : DataW.trod enc Try.prog W 0 spare held n 77 cs = some x) : ∃ s : Int × Int, ((0 ≤ s.1 ∧ s.1 ≤ 255) ∧ 0 ≤ s.2 ∧ s.2 ≤ 255) ∧ cs = [.int .u8 s.1, .int .u8 s.2] := by
  obtain ⟨xs, k, hk, hxy, hcl, hxl, hf⟩ := DataW.trod_struct Try.underlying77 h
  rw [show Try.prog.cellsOf 77 = 2 by kernel_rfl] at hcl
  match xs, hxl, cs, hcl with
  | [y0, y1], _, [v0, v1], _ =>
    have g0 := hf 0 _ rfl
    have g1 := hf 1 _ rfl
    have k0 : Try.prog.cellsOf 5 = 1 := by kernel_rfl
    simp only [List.getElem_toArray, List.getElem_cons_zero, List.getElem_cons_succ] at g0 g1
    rw [k0] at g0 g1
    simp only [List.drop_zero, List.drop_succ_cons, List.take_succ_cons, List.take_zero, List.getElem?_cons_zero, List.getElem?_cons_succ] at g0 g1
    obtain ⟨a0, b0, -, w0⟩ := DataW.trod_int Try.underlying5 g0
    obtain ⟨a1, b1, -, w1⟩ := DataW.trod_int Try.underlying5 g1
    simp only [List.cons.injEq, and_true] at b0 b1
    subst b0
    subst b1
    exact ⟨(a0, a1), ⟨inu8 w0, inu8 w1⟩, rfl⟩

theorem steps_open {n : Nat} {v : Value} {x : DataW H × List MemPlace} (h : DataW.trod enc Try.prog W 0 (fun _ => true) held n 34 [v] = some x) :
    ∃ (a : Option Addr) (c : Nat) (l : List (Int × Int)), v = .slice a l.length c ∧ l.length ≤ maxLen ∧ (∀ k, k < l.length → ((0 ≤ (l.getD k (0, 0)).1 ∧ (l.getD k (0, 0)).1 ≤ 255) ∧ 0 ≤ (l.getD k (0, 0)).2 ∧ (l.getD k (0, 0)).2 ≤ 255)) ∧ StAt a l W := by
  rcases open_slice Try.underlying34 h with ⟨hcs, _⟩ | ⟨a, len, cap, m, n', D, Pl, hcs, hb, hl, hm, hmm, hx, hi⟩
  · simp only [List.cons.injEq, and_true] at hcs
    exact ⟨none, 0, [], hcs, by decide, fun k hk => absurd hk (by simp), fun hn => absurd rfl hn⟩
  · simp only [List.cons.injEq, and_true] at hcs
    simp only [if_true] at hmm
    subst hmm
    rw [show Try.prog.cellsOf 77 = 2 by kernel_rfl] at hi
    have each : ∀ i, i < len → ∃ s : Int × Int, ((0 ≤ s.1 ∧ s.1 ≤ 255) ∧ 0 ≤ s.2 ∧ s.2 ≤ 255) ∧ W.cell? (a.add (i * 2)) = some (.int .u8 s.1) ∧ W.cell? (a.add (i * 2 + 1)) = some (.int .u8 s.2) := by
      intro i hlt
      obtain ⟨cs', h1, h2⟩ := hi i (by omega)
      obtain ⟨s, hs, rfl⟩ := step_cells h2
      obtain ⟨_, _, hc⟩ := World.cells?_some h1
      have c0 := hc 0 (by omega)
      have c1 := hc 1 (by omega)
      rw [add_add] at c0 c1
      exact ⟨s, hs, by simpa using c0, by simpa using c1⟩
    obtain ⟨f, hf⟩ := choose_lt each
    have hlen : ((List.range len).map f).length = len := by simp
    have hget : ∀ k, k < len → ((List.range len).map f).getD k (0, 0) = f k := fun k hk => by simp [List.getD_eq_getElem?_getD, hk]
    refine ⟨some a, m, (List.range len).map f, by rw [hlen]; exact hcs, by rw [hlen]; omega, fun k hk => ?_, fun hn => ?_⟩
    · rw [hlen] at hk
      rw [hget k hk]
      exact (hf k hk).1
    · have h0 : 0 < len := by
        rcases Nat.eq_zero_or_pos len with e | e
        · subst e; exact absurd rfl hn
        · exact e
      obtain ⟨b, off, spot⟩ := a
      have hspot : spot = none := by simpa [Addr.add] using World.cell?_spot (hf 0 h0).2.1
      subst hspot
      have hadd : ∀ j, ((⟨b, off, none⟩ : Addr).add j) = ⟨b, off + j, none⟩ := fun j => by simp [Addr.add]
      have hc0 := (hf 0 h0).2.1
      refine ⟨b, off, rfl, ?_, fun k hk => ?_⟩
      · rw [hadd] at hc0
        exact cell_lt hc0
      · rw [hlen] at hk
        rw [hget k hk]
        obtain ⟨q0, q1, q2⟩ := hf k hk
        rw [hadd] at q1 q2
        exact ⟨q1, q2⟩
end

end Go.Proofs.Ytngnehlmbipabaa
