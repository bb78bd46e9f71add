/-
  The plain law of QuantityInner: if spans are inside of others, so are the results.
-/
import Derived.Test.YtjnllfebeeiilaaKp
set_option linter.unusedSimpArgs false
set_option linter.unusedVariables false
namespace Go.Proofs.Ytjnllfebeeiilaa
open Go.RowKit

/-- The law's nine computations. -/
def workS (i : Int) (a b : Int × Int) (n d : Int) : (Int × Int) × Int :=
  if i = 0 then addS a b else if i = 1 then subS a b else if i = 2 then scaleS a n d else if i = 3 then mulS a b d else if i = 4 then divS a b n
  else if i = 5 then squareS a d else if i = 6 then meetS a b else if i = 7 then clipS a (n - d) (n + d) else growS a d
/-- One span is inside of another one. -/
def Ins (a p : Int × Int) : Prop := p.1 ≤ a.1 ∧ a.2 ≤ p.2
theorem ins_mk {a p : Int × Int} (ha : okS a = true) (hp : okS p = true) (h1 : p.1 ≤ a.1) (h2 : a.2 ≤ p.2) : insideS a p = true := by
  unfold insideS
  rw [ha, hp]
  simp [h1, h2]
def InnerAt (i : Int) (v u : (Int × Int) × Int) : Prop := (v.2 = 0 → u.2 = 0 → insideS v.1 u.1 = true) ∧ (u.2 = 0 → v.2 ≠ 0 → i = 6 ∧ v.2 = 5)
theorem InnerAt.both {i : Int} {v u : (Int × Int) × Int} (hv : v.2 = 0) (h : insideS v.1 u.1 = true) : InnerAt i v u := ⟨fun _ _ => h, fun _ hn => absurd hv hn⟩
theorem InnerAt.out {i : Int} {v u : (Int × Int) × Int} (hu : u.2 ≠ 0) : InnerAt i v u := ⟨fun _ e => absurd e hu, fun e => absurd e hu⟩

theorem inner_law (i : Int) {a b p r : Int × Int} {n d : Int} (ha : SmS a) (hb : SmS b) (hp : SmS p) (hr : SmS r) (h1 : Ins a p) (h2 : Ins b r) (n1 : -32768 ≤ n) (n2 : n ≤ 32767) (d1 : 1 ≤ d) (d2 : d ≤ 65536) :
    InnerAt i (workS i a b n d) (workS i p r n d) := by
  have oa := ha.ok
  have ob := hb.ok
  have op := hp.ok
  have or_ := hr.ok
  unfold workS
  by_cases e0 : i = 0
  · simp only [if_pos e0]
    rw [add_law ha hb, add_law hp hr]
    unfold SmS Ins at *
    exact InnerAt.both rfl (ins_mk (okS_mk (by omega) (by omega) (by omega)) (okS_mk (by omega) (by omega) (by omega)) (by dsimp only; omega) (by dsimp only; omega))
  by_cases e1 : i = 1
  · simp only [if_neg e0, if_pos e1]
    rw [sub_law ha hb, sub_law hp hr]
    unfold SmS Ins at *
    exact InnerAt.both rfl (ins_mk (okS_mk (by omega) (by omega) (by omega)) (okS_mk (by omega) (by omega) (by omega)) (by dsimp only; omega) (by dsimp only; omega))
  by_cases e2 : i = 2
  · simp only [if_neg e0, if_neg e1, if_pos e2]
    obtain ⟨z1, b1⟩ := scale_best (n := n) ha (by omega) (by omega) d1 (by omega)
    obtain ⟨z2, b2⟩ := scale_best (n := n) hp (by omega) (by omega) d1 (by omega)
    unfold SmS Ins at *
    refine InnerAt.both z1 (b1.inner b2 ?_)
    rintro P K (⟨rfl, rfl⟩ | ⟨rfl, rfl⟩)
    · exact scale_in b2 (by omega) (by omega)
    · exact scale_in b2 (by omega) (by omega)
  by_cases e3 : i = 3
  · simp only [if_neg e0, if_neg e1, if_neg e2, if_pos e3]
    obtain ⟨z1, b1⟩ := mul_best ha hb d1 (by omega)
    obtain ⟨z2, b2⟩ := mul_best hp hr d1 (by omega)
    unfold SmS Ins at *
    refine InnerAt.both z1 (b1.inner b2 ?_)
    rintro P K (((⟨rfl, rfl⟩ | ⟨rfl, rfl⟩) | ⟨rfl, rfl⟩) | ⟨rfl, rfl⟩)
    all_goals exact mul_in b2 (by omega) (by omega) (by omega) (by omega)
  by_cases e4 : i = 4
  · simp only [if_neg e0, if_neg e1, if_neg e2, if_neg e3, if_pos e4]
    by_cases hz : r.1 ≤ 0 ∧ 0 ≤ r.2
    · rw [div_zero hp hr (by omega) (by omega) hz]
      exact InnerAt.out (by decide)
    · have hz' : ¬ (b.1 ≤ 0 ∧ 0 ≤ b.2) := by unfold SmS Ins at *; omega
      obtain ⟨z1, b1⟩ := div_best (n := n) ha hb (by omega) (by omega) hz'
      obtain ⟨z2, b2⟩ := div_best (n := n) hp hr (by omega) (by omega) hz
      unfold SmS Ins at *
      refine InnerAt.both z1 (b1.inner b2 ?_)
      rintro P K (((⟨rfl, rfl⟩ | ⟨rfl, rfl⟩) | ⟨rfl, rfl⟩) | ⟨rfl, rfl⟩)
      all_goals exact div_in hz b2 (by omega) (by omega) (by omega) (by omega)
  by_cases e5 : i = 5
  · simp only [if_neg e0, if_neg e1, if_neg e2, if_neg e3, if_neg e4, if_pos e5]
    obtain ⟨z1, b1⟩ := square_best ha d1 (by omega)
    obtain ⟨z2, b2⟩ := square_best hp d1 (by omega)
    unfold SmS Ins at *
    refine InnerAt.both z1 (b1.inner b2 ?_)
    rintro P K ((⟨rfl, rfl⟩ | ⟨rfl, rfl⟩) | ⟨rfl, rfl⟩)
    · exact square_in b2 (by unfold mid0; omega) (by unfold mid0; omega)
    · exact square_in b2 (by omega) (by omega)
    · exact square_in b2 (by omega) (by omega)
  by_cases e6 : i = 6
  · simp only [if_neg e0, if_neg e1, if_neg e2, if_neg e3, if_neg e4, if_neg e5, if_pos e6]
    have hab : (okS a && okS b) = true := by rw [oa, ob]; rfl
    have hpr : (okS p && okS r) = true := by rw [op, or_]; rfl
    by_cases hm : min a.2 b.2 < max a.1 b.1
    · rw [meetS_none hab hm]
      exact ⟨fun h => absurd h (by decide), fun _ _ => ⟨e6, rfl⟩⟩
    · have hm' : ¬ min p.2 r.2 < max p.1 r.1 := by unfold Ins at *; omega
      rw [meetS_yes hab hm, meetS_yes hpr hm']
      unfold SmS Ins at *
      exact InnerAt.both rfl (ins_mk (okS_mk (by omega) (by omega) (by omega)) (okS_mk (by omega) (by omega) (by omega)) (by dsimp only; omega) (by dsimp only; omega))
  by_cases e7 : i = 7
  · simp only [if_neg e0, if_neg e1, if_neg e2, if_neg e3, if_neg e4, if_neg e5, if_neg e6, if_pos e7]
    have hc : okS (n - d, n + d) = true := okS_mk (by omega) (by omega) (by omega)
    rw [clipS_yes (by rw [oa, hc]; rfl), clipS_yes (by rw [op, hc]; rfl)]
    unfold SmS Ins at *
    exact InnerAt.both rfl (ins_mk (okS_mk (by omega) (by omega) (by omega)) (okS_mk (by omega) (by omega) (by omega)) (by dsimp only; omega) (by dsimp only; omega))
  · simp only [if_neg e0, if_neg e1, if_neg e2, if_neg e3, if_neg e4, if_neg e5, if_neg e6, if_neg e7]
    have hq : isQ d = true := smQ (by omega) (by omega)
    rw [growS_yes oa (by omega) hq, growS_yes op (by omega) hq]
    unfold SmS Ins at *
    have s1 : spanS (a.1 - d, a.2 + d) = ((a.1 - d, a.2 + d), 0) := spanS_yes ((isQ_iff _).2 (by dsimp only; omega)) ((isQ_iff _).2 (by dsimp only; omega))
    have s2 : spanS (p.1 - d, p.2 + d) = ((p.1 - d, p.2 + d), 0) := spanS_yes ((isQ_iff _).2 (by dsimp only; omega)) ((isQ_iff _).2 (by dsimp only; omega))
    rw [s1, s2]
    exact InnerAt.both rfl (ins_mk (okS_mk (by omega) (by omega) (by omega)) (okS_mk (by omega) (by omega) (by omega)) (by dsimp only; omega) (by dsimp only; omega))

/-- The hull of two small spans. -/
theorem hull_sm {a b : Int × Int} (ha : SmS a) (hb : SmS b) : hullS a b = ((min a.1 b.1, max a.2 b.2), 0) ∧ SmS (min a.1 b.1, max a.2 b.2) := by
  refine ⟨hullS_yes (by rw [ha.ok, hb.ok]; rfl), ?_⟩
  unfold SmS at *
  dsimp only
  omega

end Go.Proofs.Ytjnllfebeeiilaa
