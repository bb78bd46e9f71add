/-
  A parameter that is a slice of small spans, opened.
-/
import Derived.Test.YtjnllfebeeiilaaLHa
import Derived.Test.YtjnllfebeeiilaaBd
import Derived.Deep.Slices
import Derived.Lib.SmallJoins
import Derived.OpenShut
import Derived.ChangeSame
set_option linter.unusedSimpArgs false
set_option linter.unusedVariables false
namespace Go.Proofs.Ytjnllfebeeiilaa
open Go.ChangeShapes Go.WideShapes Go.ChangeAt Go.RowKit Go.Deep

section
variable {H : Type} {enc : TypeId × Value → H} {W : World} {spare : Nat → Bool} {held : Bool}
set_option maxRecDepth 20000 in
theorem small_cells {n : Nat} {cs : List Value} {x : DataW H × List MemPlace} (h : DataW.trod enc Try.prog W 0 spare held n 25 cs = some x) : ∃ s : Sm3, SmOk s ∧ cs = [.int .i16 s.1, .int .i16 s.2.1, .int .u16 s.2.2] := by
  obtain ⟨xs, k, hk, hxy, hcl, hxl, hf⟩ := DataW.trod_struct Try.underlying25 h
  rw [show Try.prog.cellsOf 25 = 3 by kernel_rfl] at hcl
  match xs, hxl, cs, hcl with
  | [y0, y1, y2], _, [v0, v1, v2], _ =>
    have g0 := hf 0 _ rfl
    have g1 := hf 1 _ rfl
    have g2 := hf 2 _ rfl
    have k0 : Try.prog.cellsOf 22 = 1 := by kernel_rfl
    have k1 : Try.prog.cellsOf 23 = 1 := by kernel_rfl
    simp only [List.getElem_toArray, List.getElem_cons_zero, List.getElem_cons_succ] at g0 g1 g2
    rw [k0] at g0 g1
    rw [k1] at g2
    simp only [List.drop_zero, List.drop_succ_cons, List.take_succ_cons, List.take_zero, List.getElem?_cons_zero, List.getElem?_cons_succ] at g0 g1 g2
    obtain ⟨a0, b0, -, w0⟩ := DataW.trod_int Try.underlying22 g0
    obtain ⟨a1, b1, -, w1⟩ := DataW.trod_int Try.underlying22 g1
    obtain ⟨a2, b2, -, w2⟩ := DataW.trod_int Try.underlying23 g2
    simp only [List.cons.injEq, and_true] at b0 b1 b2
    subst b0
    subst b1
    subst b2
    exact ⟨(a0, a1, a2), ⟨(in16 w0).1, (in16 w0).2, (in16 w1).1, (in16 w1).2, (inu16 w2).1, (inu16 w2).2⟩, rfl⟩

theorem smalls_open {n : Nat} {v : Value} {x : DataW H × List MemPlace} (h : DataW.trod enc Try.prog W 0 (fun _ => true) held n 67 [v] = some x) :
    ∃ (a : Option Addr) (c : Nat) (l : List Sm3), v = .slice a l.length c ∧ l.length ≤ maxLen ∧ (∀ k, k < l.length → SmOk (l.getD k sm0)) ∧ SmAt a l W := by
  rcases open_slice Try.underlying67 h with ⟨hcs, _⟩ | ⟨a, len, cap, m, n', D, Pl, hcs, hb, hl, hm, hmm, hx, hi⟩
  · simp only [List.cons.injEq, and_true] at hcs
    exact ⟨none, 0, [], hcs, by decide, fun k hk => absurd hk (by simp), fun hn => absurd rfl hn⟩
  · simp only [List.cons.injEq, and_true] at hcs
    simp only [if_true] at hmm
    subst hmm
    rw [show Try.prog.cellsOf 25 = 3 by kernel_rfl] at hi
    have each : ∀ i, i < len → ∃ s : Sm3, SmOk s ∧ W.cell? (a.add (i * 3)) = some (.int .i16 s.1) ∧ W.cell? (a.add (i * 3 + 1)) = some (.int .i16 s.2.1) ∧ W.cell? (a.add (i * 3 + 2)) = some (.int .u16 s.2.2) := by
      intro i hlt
      obtain ⟨cs', h1, h2⟩ := hi i (by omega)
      obtain ⟨s, hs, rfl⟩ := small_cells h2
      obtain ⟨_, _, hc⟩ := World.cells?_some h1
      have c0 := hc 0 (by omega)
      have c1 := hc 1 (by omega)
      have c2 := hc 2 (by omega)
      rw [add_add] at c0 c1 c2
      exact ⟨s, hs, by simpa using c0, by simpa using c1, by simpa using c2⟩
    obtain ⟨f, hf⟩ := choose_lt each
    have hlen : ((List.range len).map f).length = len := by simp
    have hget : ∀ k, k < len → ((List.range len).map f).getD k sm0 = f k := fun k hk => by simp [List.getD_eq_getElem?_getD, hk]
    refine ⟨some a, m, (List.range len).map f, by rw [hlen]; exact hcs, by rw [hlen]; omega, fun k hk => ?_, fun hn => ?_⟩
    · rw [hlen] at hk
      rw [hget k hk]
      exact (hf k hk).1
    · have h0 : 0 < len := by
        rcases Nat.eq_zero_or_pos len with e | e
        · subst e; exact absurd rfl hn
        · exact e
      obtain ⟨b, off, spot⟩ := a
      have hspot : spot = none := by simpa [Addr.add] using World.cell?_spot (hf 0 h0).2.1
      subst hspot
      have hadd : ∀ j, ((⟨b, off, none⟩ : Addr).add j) = ⟨b, off + j, none⟩ := fun j => by simp [Addr.add]
      have hc0 := (hf 0 h0).2.1
      refine ⟨b, off, rfl, ?_, fun k hk => ?_⟩
      · rw [hadd] at hc0
        exact cell_lt hc0
      · rw [hlen] at hk
        rw [hget k hk]
        obtain ⟨q0, q1, q2, q3⟩ := hf k hk
        rw [hadd] at q1 q2 q3
        exact ⟨q1, q2, q3⟩
end

end Go.Proofs.Ytjnllfebeeiilaa
