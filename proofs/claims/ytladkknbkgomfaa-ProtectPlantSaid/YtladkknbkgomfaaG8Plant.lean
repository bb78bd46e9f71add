/-
  Plants: the reference's Copy and Move.
-/
import Derived.Test.YtladkknbkgomfaaG7Plant
set_option linter.unusedSimpArgs false
set_option linter.unusedVariables false
namespace Go.Proofs.Ytladkknbkgomfaa
open Go.RowKit Mr
theorem own_src {W : World} {B E sz n c : Nat} {a : Option Addr} {xs : List Value} (h : W.ownsRow B E sz (.slice a n c) n xs) : n * sz ≠ 0 → ∃ p off, a = some ⟨p, off, none⟩ ∧ ∀ j u, xs[j]? = some u → W.cell? ⟨p, off + j, none⟩ = some u := fun hn => by
  obtain ⟨h1, h2⟩ := h
  rcases h2 with ⟨-, h3⟩ | ⟨g, cap, cur, q1, q2, q3, q4, q5, q6, q7⟩
  · exact absurd (by rw [h3, Nat.zero_mul]) hn
  · cases q1
    refine ⟨g, 0, rfl, fun j u hj => ?_⟩
    have hjl := (List.getElem?_eq_some_iff.1 hj).1
    rw [← q7, List.getElem?_take_of_lt (by omega)] at hj
    rw [Nat.zero_add]
    exact blk_cell q3 (by simpa using hj)
theorem own_more {W : World} {B B2 e s n : Nat} {v : Value} {xs : List Value} (h : W.ownsRow B e s v n xs) (hb : v.ownBlock = none ∨ ∃ k, v.ownBlock = some k ∧ B2 ≤ k) : W.ownsRow B2 e s v n xs := by
  obtain ⟨h1, h2⟩ := h
  refine ⟨h1, ?_⟩
  rcases h2 with h2 | ⟨g, cap, cur, q1, q2, q3⟩
  · exact Or.inl h2
  · refine Or.inr ⟨g, cap, cur, q1, ?_, q3⟩
    rcases hb with hb | ⟨k, e, hk⟩
    · rw [q1] at hb; cases hb
    · rw [q1] at e; cases e; exact hk
theorem actC_one (a : ActM) : ∀ u ∈ flatA [a], u.oneCell' = true := flatA_one _
set_option maxHeartbeats 4000000 in
set_option maxRecDepth 20000 in
theorem RCopy_any {M Q : Nat} {l : List Brk} {A : List ActM} {lag : Nat} {sh : T3} {fi : Bool} {aL : Option Addr} {cL : Nat} {vA : Value} {w : World} (h : RpAt M Q l A lag sh fi aL cL vA w) (hn : A.length ≤ 1000) : Calls Try.prog 8 #[.pointer (some ⟨Q, 0, none⟩)] w fun e w' => ∃ Q' vA', e = .returned (.pointer (some ⟨Q', 0, none⟩)) ∧ RpAt w.heap.size Q' l A lag sh fi aL cL vA' w' ∧ Below w.heap.size w w' := by
  obtain ⟨aA, cA, rfl⟩ := row_sl h.oA
  obtain ⟨j0, hj0, hy0, hy1, hy2⟩ := info_parts infoAct
  have HN := Lib.hid hn
  have HOA := Lib.hid h.oA
  have HOL := Lib.hid h.oL
  have x0 : w.cell? ⟨Q, 0, none⟩ = some (.int .i64 (lag : Int)) := blk_cell h.blk rfl
  have x1 : w.cell? ⟨Q, 1, none⟩ = some (.slice aL l.length cL) := blk_cell h.blk rfl
  have x2 : w.cell? ⟨Q, 2, none⟩ = some (.slice aA A.length cA) := blk_cell h.blk rfl
  have x3 : w.cell? ⟨Q, 3, none⟩ = some (.bool sh.1) := blk_cell h.blk rfl
  have x4 : w.cell? ⟨Q, 4, none⟩ = some (.bool sh.2.1) := blk_cell h.blk rfl
  have x5 : w.cell? ⟨Q, 5, none⟩ = some (.bool sh.2.2) := blk_cell h.blk rfl
  have x6 : w.cell? ⟨Q, 6, none⟩ = some (.bool fi) := blk_cell h.blk rfl
  have lQ := h.lt
  have HO0 : Hid (((w.alloc (.cells #[.int .i64 (lag : Int), .slice aL l.length cL, .slice aA A.length cA, .bool sh.1, .bool sh.2.1, .bool sh.2.2, .bool fi] 47)).alloc (.cells #[] 41)).ownsRow w.heap.size 41 4 (.slice (some ⟨w.heap.size + 1, 0, none⟩) 0 0) 0 []) := by
    have h9 := own_new0 (W := (w.alloc (.cells #[.int .i64 (lag : Int), .slice aL l.length cL, .slice aA A.length cA, .bool sh.1, .bool sh.2.1, .bool sh.2.2, .bool fi] 47))) (B := w.heap.size) (E := 41) (sz := 4) bAl.size
    rw [show (w.alloc (.cells #[.int .i64 (lag : Int), .slice aL l.length cL, .slice aA A.length cA, .bool sh.1, .bool sh.2.1, .bool sh.2.2, .bool fi] 47)).heap.size = w.heap.size + 1 by simp] at h9
    exact h9
  clear h hn
  go_enter Try.func8, Try.ntmps8
  go_wp2_with (at_builtin; refine wpList_app _ rfl (.tmp 7) (.tmp 11) 45 rfl w.heap.size 41 j0 _ 4 4 Try.underlying45 hj0 hy0 hy1 hy2 rfl (by decide) (.slice (some ⟨w.heap.size + 1, 0, none⟩) 0 0) 0 [] rfl HO0.out aA A.length cA (flatA A) rfl (flatA_len _) (own_src (own_step HOA.out (bAlloc bAl _))) (flatA_one _) (by have := HN.out; unfold maxLen; omega) (by have := HN.out; omega) (by simp; omega) ?_; intro v' w5 hown hgrow hat; have hO2 : Hid (w5.ownsRow w.heap.size 41 4 v' A.length (flatA A)) := (by show World.ownsRow _ _ _ _ _ _ _; rw [Nat.zero_add, List.nil_append] at hown; exact hown); have hB2 : Hid (Below w.heap.size w w5) := (bAlloc bAl _).grown hgrow (by simp; omega) (fun k hk => (World.ownsRow.lt HO0.out k hk).1); have hQ2 : Hid (w5.heap[w.heap.size]? = some (.cells #[.int .i64 (lag : Int), .slice aL l.length cL, .slice aA A.length cA, .bool sh.1, .bool sh.2.1, .bool sh.2.2, .bool fi] 47 (0, 0))) := (blk_grown (blk_step (blk_new w _) bAl) hgrow (by simp [Value.ownBlock])); have hat2 : Hid (v'.ownBlock ≠ some w.heap.size) := (by show _ ≠ _; rcases hat with q | q <;> rw [q] <;> simp [Value.ownBlock] <;> omega); have lq := blk_lt hQ2.out; have cq := blk_cell (o := 2) hQ2.out rfl; have fq := blk_free (o := 2) hQ2.out; obtain ⟨a5, c5, e5⟩ := row_sl hO2.out; subst e5; clear hown hgrow hat)
  have HB := Lib.hid (hB2.out.setCell (p := ⟨w.heap.size, 2, none⟩) (Nat.le_refl _) (.slice a5 A.length c5))
  refine bodyPost_ret (v := .pointer (some ⟨w.heap.size, 0, none⟩)) (by simp only [results, Try.results8]; go_simp) rfl ⟨w.heap.size, .slice a5 A.length c5, rfl, ⟨Nat.le_refl _, HB.out.size, (blk_set hQ2.out).trans rfl, ?_, hat2.out, ?_⟩, HB.out⟩
  · exact ownsRow_setCell_other hO2.out hat2.out _
  · intro hne
    obtain ⟨b, e, h1, h2, h3, h4⟩ := HOL.out hne
    refine ⟨b, e, ?_, Nat.lt_of_lt_of_le h2 HB.out.size, Nat.lt_of_lt_of_le h3 HB.out.size, fun j u hj => cell_step (h4 j u hj) HB.out⟩
    rintro (c | c)
    · omega
    · have := (World.ownsRow.lt hO2.out _ c).1
      omega
end Go.Proofs.Ytladkknbkgomfaa
