/-
  The contracts of near as the law QuantityTight uses them.
-/
import Derived.Test.YtjnllfebeeiilaaTwo
import Derived.Test.YtjnllfebeeiilaaNear
set_option linter.unusedSimpArgs false
set_option linter.unusedVariables false
namespace Go.Proofs.Ytjnllfebeeiilaa
open Go.RowKit

/-- A row of the first numbers of a list. -/
def f2 (a b : Int) (k : Nat) : Int := if k = 0 then a else b
def f3 (a b c : Int) (k : Nat) : Int := if k = 0 then a else if k = 1 then b else c
def f4 (a b c d : Int) (k : Nat) : Int := if k = 0 then a else if k = 1 then b else if k = 2 then c else d
theorem Row.of2 {r : Nat} {W : World} {a b : Int} (h0 : W.cell? ⟨r, 0, none⟩ = some (.int .i64 a)) (h1 : W.cell? ⟨r, 1, none⟩ = some (.int .i64 b)) : Row r (f2 a b) 2 W := fun k hk => by
  have : k = 0 ∨ k = 1 := by omega
  rcases this with rfl | rfl
  · exact h0
  · exact h1
theorem Row.of3 {r : Nat} {W : World} {a b c : Int} (h0 : W.cell? ⟨r, 0, none⟩ = some (.int .i64 a)) (h1 : W.cell? ⟨r, 1, none⟩ = some (.int .i64 b)) (h2 : W.cell? ⟨r, 2, none⟩ = some (.int .i64 c)) : Row r (f3 a b c) 3 W := fun k hk => by
  have : k = 0 ∨ k = 1 ∨ k = 2 := by omega
  rcases this with rfl | rfl | rfl
  · exact h0
  · exact h1
  · exact h2
theorem Row.of4 {r : Nat} {W : World} {a b c d : Int} (h0 : W.cell? ⟨r, 0, none⟩ = some (.int .i64 a)) (h1 : W.cell? ⟨r, 1, none⟩ = some (.int .i64 b)) (h2 : W.cell? ⟨r, 2, none⟩ = some (.int .i64 c)) (h3 : W.cell? ⟨r, 3, none⟩ = some (.int .i64 d)) : Row r (f4 a b c d) 4 W := fun k hk => by
  have : k = 0 ∨ k = 1 ∨ k = 2 ∨ k = 3 := by omega
  rcases this with rfl | rfl | rfl | rfl
  · exact h0
  · exact h1
  · exact h2
  · exact h3

/-- The contract of 'near' where its rows lie as two lists make them: in two blocks laid one after the other. -/
theorem near_two (X : World) (l u a b d e : Int) (T : TypeId) (hl : -34359738368 ≤ l) (hu : u ≤ 34359738368) (hlu : l ≤ u) (hN : Near l u (f2 a b) (f2 d e) 2) (r1 r2 : Nat) (hr1 : r1 = X.heap.size) (hr : r2 = X.heap.size + 1) :
    Calls Try.prog 20 #[.agg #[.int .i64 l, .int .i64 u], .slice (some ⟨r1, 0, none⟩) 2 2, .slice (some ⟨r2, 0, none⟩) 2 2] ((X.alloc (.cells #[.int .i64 a, .int .i64 b] T)).alloc (.cells #[.int .i64 d, .int .i64 e] T)) fun ee w' => ee = .returned (.bool true) ∧ Below ((X.alloc (.cells #[.int .i64 a, .int .i64 b] T)).alloc (.cells #[.int .i64 d, .int .i64 e] T)).heap.size ((X.alloc (.cells #[.int .i64 a, .int .i64 b] T)).alloc (.cells #[.int .i64 d, .int .i64 e] T)) w' := by
  subst hr1
  subst hr
  exact near_yes l u (f2 a b) (f2 d e) 2 _ _ _ (by omega) (by refine Row.of2 ?_ ?_ <;> go_simp) (by refine Row.of2 ?_ ?_ <;> go_simp) hl hu hlu hN
theorem near_three (X : World) (l u a b c d e f : Int) (T : TypeId) (hl : -34359738368 ≤ l) (hu : u ≤ 34359738368) (hlu : l ≤ u) (hN : Near l u (f3 a b c) (f3 d e f) 3) (r1 r2 : Nat) (hr1 : r1 = X.heap.size) (hr : r2 = X.heap.size + 1) :
    Calls Try.prog 20 #[.agg #[.int .i64 l, .int .i64 u], .slice (some ⟨r1, 0, none⟩) 3 3, .slice (some ⟨r2, 0, none⟩) 3 3] ((X.alloc (.cells #[.int .i64 a, .int .i64 b, .int .i64 c] T)).alloc (.cells #[.int .i64 d, .int .i64 e, .int .i64 f] T)) fun ee w' => ee = .returned (.bool true) ∧ Below ((X.alloc (.cells #[.int .i64 a, .int .i64 b, .int .i64 c] T)).alloc (.cells #[.int .i64 d, .int .i64 e, .int .i64 f] T)).heap.size ((X.alloc (.cells #[.int .i64 a, .int .i64 b, .int .i64 c] T)).alloc (.cells #[.int .i64 d, .int .i64 e, .int .i64 f] T)) w' := by
  subst hr1
  subst hr
  exact near_yes l u (f3 a b c) (f3 d e f) 3 _ _ _ (by omega) (by refine Row.of3 ?_ ?_ ?_ <;> go_simp) (by refine Row.of3 ?_ ?_ ?_ <;> go_simp) hl hu hlu hN
theorem near_four (X : World) (l u a b c d e f g h : Int) (T : TypeId) (hl : -34359738368 ≤ l) (hu : u ≤ 34359738368) (hlu : l ≤ u) (hN : Near l u (f4 a b c d) (f4 e f g h) 4) (r1 r2 : Nat) (hr1 : r1 = X.heap.size) (hr : r2 = X.heap.size + 1) :
    Calls Try.prog 20 #[.agg #[.int .i64 l, .int .i64 u], .slice (some ⟨r1, 0, none⟩) 4 4, .slice (some ⟨r2, 0, none⟩) 4 4] ((X.alloc (.cells #[.int .i64 a, .int .i64 b, .int .i64 c, .int .i64 d] T)).alloc (.cells #[.int .i64 e, .int .i64 f, .int .i64 g, .int .i64 h] T)) fun ee w' => ee = .returned (.bool true) ∧ Below ((X.alloc (.cells #[.int .i64 a, .int .i64 b, .int .i64 c, .int .i64 d] T)).alloc (.cells #[.int .i64 e, .int .i64 f, .int .i64 g, .int .i64 h] T)).heap.size ((X.alloc (.cells #[.int .i64 a, .int .i64 b, .int .i64 c, .int .i64 d] T)).alloc (.cells #[.int .i64 e, .int .i64 f, .int .i64 g, .int .i64 h] T)) w' := by
  subst hr1
  subst hr
  exact near_yes l u (f4 a b c d) (f4 e f g h) 4 _ _ _ (by omega) (by refine Row.of4 ?_ ?_ ?_ ?_ <;> go_simp) (by refine Row.of4 ?_ ?_ ?_ ?_ <;> go_simp) hl hu hlu hN

/-- One fraction as 'near' wants it. -/
theorem near_pos {l u P K : Int} (hK1 : 1 ≤ K) (hK2 : K ≤ 131072) (hP1 : -17592186044416 ≤ P) (hP2 : P ≤ 17592186044416) (h1 : l * K ≤ P) (h2 : P ≤ u * K) :
    K ≠ 0 ∧ -131072 ≤ K ∧ K ≤ 131072 ∧ -17592186044416 ≤ P ∧ P ≤ 17592186044416 ∧ l * (K.natAbs : Int) ≤ P * sg K ∧ P * sg K ≤ u * (K.natAbs : Int) := by
  rw [sg_pos (show 0 < K by omega), show (K.natAbs : Int) = K by omega, Int.mul_one]
  exact ⟨by omega, by omega, hK2, hP1, hP2, h1, h2⟩
theorem near2 {l u P Q K : Int} (hB : Best (l, u) (fun p k => (p = P ∧ k = K) ∨ (p = Q ∧ k = K))) (hK1 : 1 ≤ K) (hK2 : K ≤ 131072) (p1 : -17592186044416 ≤ P) (p2 : P ≤ 17592186044416) (q1 : -17592186044416 ≤ Q) (q2 : Q ≤ 17592186044416) :
    Near l u (f2 P Q) (f2 K K) 2 := by
  obtain ⟨h1, ⟨p, k, hT, hlt⟩, ⟨p', k', hT', hlt'⟩, -⟩ := hB
  have kP := h1 P K (Or.inl ⟨rfl, rfl⟩)
  have kQ := h1 Q K (Or.inr ⟨rfl, rfl⟩)
  have e1 : ∀ k, f2 K K k = K := fun k => by unfold f2; split <;> rfl
  refine ⟨fun k hk => ?_, ?_, ?_⟩
  · rw [e1]
    have : k = 0 ∨ k = 1 := by omega
    rcases this with rfl | rfl
    · exact near_pos hK1 hK2 p1 p2 kP.2.1 kP.2.2
    · exact near_pos hK1 hK2 q1 q2 kQ.2.1 kQ.2.2
  · simp only [e1, sg_pos (show 0 < K by omega), show (K.natAbs : Int) = K by omega, Int.mul_one]
    rcases hT with ⟨rfl, rfl⟩ | ⟨rfl, rfl⟩
    · exact ⟨0, by omega, hlt⟩
    · exact ⟨1, by omega, hlt⟩
  · simp only [e1, sg_pos (show 0 < K by omega), show (K.natAbs : Int) = K by omega, Int.mul_one]
    rcases hT' with ⟨rfl, rfl⟩ | ⟨rfl, rfl⟩
    · exact ⟨0, by omega, hlt'⟩
    · exact ⟨1, by omega, hlt'⟩
theorem near3 {l u M P Q K : Int} (hB : Best (l, u) (fun p k => ((p = M ∧ k = K) ∨ (p = P ∧ k = K)) ∨ (p = Q ∧ k = K))) (hK1 : 1 ≤ K) (hK2 : K ≤ 131072) (m1 : -17592186044416 ≤ M) (m2 : M ≤ 17592186044416) (p1 : -17592186044416 ≤ P) (p2 : P ≤ 17592186044416) (q1 : -17592186044416 ≤ Q) (q2 : Q ≤ 17592186044416) :
    Near l u (f3 P Q M) (f3 K K K) 3 := by
  obtain ⟨h1, ⟨p, k, hT, hlt⟩, ⟨p', k', hT', hlt'⟩, -⟩ := hB
  have kM := h1 M K (Or.inl (Or.inl ⟨rfl, rfl⟩))
  have kP := h1 P K (Or.inl (Or.inr ⟨rfl, rfl⟩))
  have kQ := h1 Q K (Or.inr ⟨rfl, rfl⟩)
  have e1 : ∀ k, f3 K K K k = K := fun k => by unfold f3; split <;> (try split) <;> rfl
  refine ⟨fun k hk => ?_, ?_, ?_⟩
  · rw [e1]
    have : k = 0 ∨ k = 1 ∨ k = 2 := by omega
    rcases this with rfl | rfl | rfl
    · exact near_pos hK1 hK2 p1 p2 kP.2.1 kP.2.2
    · exact near_pos hK1 hK2 q1 q2 kQ.2.1 kQ.2.2
    · exact near_pos hK1 hK2 m1 m2 kM.2.1 kM.2.2
  · simp only [e1, sg_pos (show 0 < K by omega), show (K.natAbs : Int) = K by omega, Int.mul_one]
    rcases hT with (⟨rfl, rfl⟩ | ⟨rfl, rfl⟩) | ⟨rfl, rfl⟩
    · exact ⟨2, by omega, hlt⟩
    · exact ⟨0, by omega, hlt⟩
    · exact ⟨1, by omega, hlt⟩
  · simp only [e1, sg_pos (show 0 < K by omega), show (K.natAbs : Int) = K by omega, Int.mul_one]
    rcases hT' with (⟨rfl, rfl⟩ | ⟨rfl, rfl⟩) | ⟨rfl, rfl⟩
    · exact ⟨2, by omega, hlt'⟩
    · exact ⟨0, by omega, hlt'⟩
    · exact ⟨1, by omega, hlt'⟩
theorem near4 {l u P Q R S K : Int} (hB : Best (l, u) (fun p k => (((p = P ∧ k = K) ∨ (p = Q ∧ k = K)) ∨ (p = R ∧ k = K)) ∨ (p = S ∧ k = K))) (hK1 : 1 ≤ K) (hK2 : K ≤ 131072) (p1 : -17592186044416 ≤ P) (p2 : P ≤ 17592186044416) (q1 : -17592186044416 ≤ Q) (q2 : Q ≤ 17592186044416) (r1 : -17592186044416 ≤ R) (r2 : R ≤ 17592186044416) (s1 : -17592186044416 ≤ S) (s2 : S ≤ 17592186044416) :
    Near l u (f4 P Q R S) (f4 K K K K) 4 := by
  obtain ⟨h1, ⟨p, k, hT, hlt⟩, ⟨p', k', hT', hlt'⟩, -⟩ := hB
  have kP := h1 P K (Or.inl (Or.inl (Or.inl ⟨rfl, rfl⟩)))
  have kQ := h1 Q K (Or.inl (Or.inl (Or.inr ⟨rfl, rfl⟩)))
  have kR := h1 R K (Or.inl (Or.inr ⟨rfl, rfl⟩))
  have kS := h1 S K (Or.inr ⟨rfl, rfl⟩)
  have e1 : ∀ k, f4 K K K K k = K := fun k => by unfold f4; split <;> (try split) <;> (try split) <;> rfl
  refine ⟨fun k hk => ?_, ?_, ?_⟩
  · rw [e1]
    have : k = 0 ∨ k = 1 ∨ k = 2 ∨ k = 3 := by omega
    rcases this with rfl | rfl | rfl | rfl
    · exact near_pos hK1 hK2 p1 p2 kP.2.1 kP.2.2
    · exact near_pos hK1 hK2 q1 q2 kQ.2.1 kQ.2.2
    · exact near_pos hK1 hK2 r1 r2 kR.2.1 kR.2.2
    · exact near_pos hK1 hK2 s1 s2 kS.2.1 kS.2.2
  · simp only [e1, sg_pos (show 0 < K by omega), show (K.natAbs : Int) = K by omega, Int.mul_one]
    rcases hT with ((⟨rfl, rfl⟩ | ⟨rfl, rfl⟩) | ⟨rfl, rfl⟩) | ⟨rfl, rfl⟩
    · exact ⟨0, by omega, hlt⟩
    · exact ⟨1, by omega, hlt⟩
    · exact ⟨2, by omega, hlt⟩
    · exact ⟨3, by omega, hlt⟩
  · simp only [e1, sg_pos (show 0 < K by omega), show (K.natAbs : Int) = K by omega, Int.mul_one]
    rcases hT' with ((⟨rfl, rfl⟩ | ⟨rfl, rfl⟩) | ⟨rfl, rfl⟩) | ⟨rfl, rfl⟩
    · exact ⟨0, by omega, hlt'⟩
    · exact ⟨1, by omega, hlt'⟩
    · exact ⟨2, by omega, hlt'⟩
    · exact ⟨3, by omega, hlt'⟩
/-- The same for quotients: the fractions are turned where the denominator is below 0. -/
theorem near_div {l u n : Int} {a b : Int × Int} (hB : Best (l, u) (DivT a b n)) (ha : SmS a) (hb : SmS b) (n1 : -32768 ≤ n) (n2 : n ≤ 32767) (hz : ¬ (b.1 ≤ 0 ∧ 0 ≤ b.2)) :
    Near l u (f4 (a.1 * n) (a.1 * n) (a.2 * n) (a.2 * n)) (f4 b.1 b.2 b.1 b.2) 4 := by
  obtain ⟨h1, ⟨p, k, hT, hlt⟩, ⟨p', k', hT', hlt'⟩, -⟩ := hB
  unfold SmS at ha hb
  have m1 := pr_bd (a := a.1) (k := n) (by omega) (by omega) (by omega) (by omega)
  have m2 := mul_bd (x := a.1) (n := n) (A := 131072) (B := 131072) (by omega) (by omega) (by omega) (by omega)
  have m3 := mul_bd (x := a.2) (n := n) (A := 131072) (B := 131072) (by omega) (by omega) (by omega) (by omega)
  have kP := h1 _ _ (Or.inl (Or.inl (Or.inl ⟨rfl, rfl⟩)))
  have kQ := h1 _ _ (Or.inl (Or.inl (Or.inr ⟨rfl, rfl⟩)))
  have kR := h1 _ _ (Or.inl (Or.inr ⟨rfl, rfl⟩))
  have kS := h1 _ _ (Or.inr ⟨rfl, rfl⟩)
  refine ⟨fun k hk => ?_, ?_, ?_⟩
  · have : k = 0 ∨ k = 1 ∨ k = 2 ∨ k = 3 := by omega
    rcases this with rfl | rfl | rfl | rfl
    · exact ⟨show b.1 ≠ 0 by omega, show -131072 ≤ b.1 by omega, show b.1 ≤ 131072 by omega, show _ ≤ a.1 * n by omega, show a.1 * n ≤ _ by omega, kP.2.1, kP.2.2⟩
    · exact ⟨show b.2 ≠ 0 by omega, show -131072 ≤ b.2 by omega, show b.2 ≤ 131072 by omega, show _ ≤ a.1 * n by omega, show a.1 * n ≤ _ by omega, kQ.2.1, kQ.2.2⟩
    · exact ⟨show b.1 ≠ 0 by omega, show -131072 ≤ b.1 by omega, show b.1 ≤ 131072 by omega, show _ ≤ a.2 * n by omega, show a.2 * n ≤ _ by omega, kR.2.1, kR.2.2⟩
    · exact ⟨show b.2 ≠ 0 by omega, show -131072 ≤ b.2 by omega, show b.2 ≤ 131072 by omega, show _ ≤ a.2 * n by omega, show a.2 * n ≤ _ by omega, kS.2.1, kS.2.2⟩
  · rcases hT with ((⟨rfl, rfl⟩ | ⟨rfl, rfl⟩) | ⟨rfl, rfl⟩) | ⟨rfl, rfl⟩
    · exact ⟨0, by omega, hlt⟩
    · exact ⟨1, by omega, hlt⟩
    · exact ⟨2, by omega, hlt⟩
    · exact ⟨3, by omega, hlt⟩
  · rcases hT' with ((⟨rfl, rfl⟩ | ⟨rfl, rfl⟩) | ⟨rfl, rfl⟩) | ⟨rfl, rfl⟩
    · exact ⟨0, by omega, hlt'⟩
    · exact ⟨1, by omega, hlt'⟩
    · exact ⟨2, by omega, hlt'⟩
    · exact ⟨3, by omega, hlt'⟩

end Go.Proofs.Ytjnllfebeeiilaa
