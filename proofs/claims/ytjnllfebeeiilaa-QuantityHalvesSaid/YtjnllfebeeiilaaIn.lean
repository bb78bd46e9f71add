/-
  The walk of the law's 'in'.
-/
import Derived.Test.YtjnllfebeeiilaaKp
set_option linter.unusedSimpArgs false
set_option linter.unusedVariables false
namespace Go.Proofs.Ytjnllfebeeiilaa
open Go.RowKit

theorem pr_bd {a k : Int} (h1 : -34359738368 ≤ a) (h2 : a ≤ 34359738368) (h3 : -131072 ≤ k) (h4 : k ≤ 131072) : -4503599627370496 ≤ a * k ∧ a * k ≤ 4503599627370496 :=
  mul_bd (A := 34359738368) (B := 131072) h1 h2 h3 h4

set_option maxHeartbeats 400000 in
theorem in_pos (l u x d : Int) (w : World) (hd1 : 1 ≤ d) (hd2 : d ≤ 131072) (hl : -34359738368 ≤ l) (hu : u ≤ 34359738368) (hlu : l ≤ u) (h1 : l * d ≤ x) (h2 : x ≤ u * d) :
    Calls Try.prog 34 #[.agg #[.int .i64 l, .int .i64 u], .int .i64 0, .int .i64 x, .int .i64 d] w fun e w' => e = .returned (.bool true) ∧ Below w.heap.size w w' := by
  have b1 := pr_bd (a := l) (k := d) hl (by omega) (by omega) hd2
  have b2 := pr_bd (a := u) (k := d) (by omega) hu (by omega) hd2
  obtain ⟨b1, b1'⟩ := b1
  obtain ⟨b2, b2'⟩ := b2
  go_enter Try.func34, Try.ntmps34
  go_wp2
  go_ret
  exact ⟨rfl, (by repeat' (first | exact Below.refl _ _ | assumption | apply bDrewN | apply bDrew | apply bAlloc | (refine bSet ?_ ?_ _) | (refine bStep ?_ (by assumption)) | omega | (simp <;> omega)))⟩

set_option maxHeartbeats 400000 in
theorem in_neg (l u x d : Int) (w : World) (hd1 : -131072 ≤ d) (hd2 : d ≤ -1) (hl : -34359738368 ≤ l) (hu : u ≤ 34359738368) (hlu : l ≤ u) (h1 : l * -d ≤ -x) (h2 : -x ≤ u * -d) :
    Calls Try.prog 34 #[.agg #[.int .i64 l, .int .i64 u], .int .i64 0, .int .i64 x, .int .i64 d] w fun e w' => e = .returned (.bool true) ∧ Below w.heap.size w w' := by
  have b1 := pr_bd (a := l) (k := -d) hl (by omega) (by omega) (by omega)
  have b2 := pr_bd (a := u) (k := -d) (by omega) hu (by omega) (by omega)
  obtain ⟨b1, b1'⟩ := b1
  obtain ⟨b2, b2'⟩ := b2
  go_enter Try.func34, Try.ntmps34
  go_wp2
  go_ret
  exact ⟨rfl, (by repeat' (first | exact Below.refl _ _ | assumption | apply bDrewN | apply bDrew | apply bAlloc | (refine bSet ?_ ?_ _) | (refine bStep ?_ (by assumption)) | omega | (simp <;> omega)))⟩

end Go.Proofs.Ytjnllfebeeiilaa
