/-
  Fuses: greater currents melt not later, currents up to the rating never.
-/
import Derived.Test.YtgiinciclnekjaaMa
set_option linter.unusedSimpArgs false
set_option linter.unusedVariables false
namespace Go.Proofs.Ytgiinciclnekjaa
open Go.RowKit

theorem heat_mono {r h h' x y : Int} (h1 : h ≤ h') (h2 : x * x ≤ y * y) : heat r h x ≤ heat r h' y := by unfold heat; omega
theorem burn_at {r m : Int} : ∀ (xs : List Int) (h : Int) (k : Nat), (burn r m xs h k).2 = true → (k : Int) ≤ (burn r m xs h k).1
  | [], _, _ => fun h => by simp [burn] at h
  | x :: xs, h, k => fun hb => by
    rw [burn] at hb ⊢
    split
    · simp
    · rename_i hn
      rw [if_neg hn] at hb
      have := burn_at xs _ _ hb
      omega
theorem burn_mono {r m : Int} {f g : Nat → Int} (hfg : ∀ i, f i * f i ≤ g i * g i) : ∀ (n s : Nat) (h h' : Int) (k : Nat), h ≤ h' → (burn r m ((List.range' s n).map f) h k).2 = true →
    (burn r m ((List.range' s n).map g) h' k).2 = true ∧ (burn r m ((List.range' s n).map g) h' k).1 ≤ (burn r m ((List.range' s n).map f) h k).1
  | 0, _, _, _, _ => fun _ h => by simp [burn] at h
  | n + 1, s, h, h', k => fun hle hb => by
    have hm := heat_mono (r := r) hle (hfg s)
    have e1 : ∀ f : Nat → Int, (List.range' s (n + 1)).map f = f s :: (List.range' (s + 1) n).map f := fun f => by rw [List.range'_succ, List.map_cons]
    have hat := burn_at _ _ _ hb
    rw [e1] at hb hat ⊢
    rw [e1]
    have eF : burn r m (f s :: (List.range' (s + 1) n).map f) h k = if m ≤ heat r h (f s) then ((k : Int), true) else burn r m ((List.range' (s + 1) n).map f) (heat r h (f s)) (k + 1) := by rw [burn]
    have eG : burn r m (g s :: (List.range' (s + 1) n).map g) h' k = if m ≤ heat r h' (g s) then ((k : Int), true) else burn r m ((List.range' (s + 1) n).map g) (heat r h' (g s)) (k + 1) := by rw [burn]
    by_cases c1 : m ≤ heat r h' (g s)
    · rw [if_pos c1] at eG
      rw [eG]
      exact ⟨rfl, hat⟩
    · have c2 : ¬ m ≤ heat r h (f s) := by omega
      rw [if_neg c2] at eF
      rw [if_neg c1] at eG
      rw [eF] at hb ⊢
      rw [eG]
      exact burn_mono hfg n (s + 1) _ _ (k + 1) hm hb
theorem burn_never {r m : Int} {f : Nat → Int} (hm : 1 ≤ m) (hf : ∀ i, f i * f i ≤ r * r) : ∀ (n s : Nat) (k : Nat), (burn r m ((List.range' s n).map f) 0 k).2 = false
  | 0, _, _ => by simp [burn]
  | n + 1, s, k => by
    have h0 : heat r 0 (f s) = 0 := by have := hf s; unfold heat; omega
    rw [List.range'_succ, List.map_cons, burn, h0, if_neg (by omega)]
    exact burn_never hm hf n (s + 1) (k + 1)

/-- A current that is greater in amount. -/
def bump (x y : Int) : Int := if x < 0 then x - y else x + y
def clampR (r x : Int) : Int := max (min x r) (-r)
theorem bump_sq {x y : Int} (h0 : 0 ≤ y) (h1 : -32768 ≤ x) (h2 : x ≤ 32767) (h3 : y ≤ 255) : x * x ≤ bump x y * bump x y := by
  unfold bump
  split
  · have h := Int.mul_le_mul (a := -x) (b := -x) (c := -(x - y)) (d := -(x - y)) (by omega) (by omega) (by omega) (by omega)
    rwa [Int.neg_mul_neg, Int.neg_mul_neg] at h
  · exact Int.mul_le_mul (by omega) (by omega) (by omega) (by omega)
theorem clamp_sq {r x : Int} (h : 0 ≤ r) : clampR r x * clampR r x ≤ r * r := by
  have h1 : -r ≤ clampR r x := by unfold clampR; omega
  have h2 : clampR r x ≤ r := by unfold clampR; omega
  exact (sq_le h1 h2).2

def asF (L : List Int) (n : Nat) : List Int := (List.range n).map fun i => L.getD i 0
def bsF (L M : List Int) (n : Nat) : List Int := (List.range n).map fun i => bump (L.getD i 0) (M.getD i 0)
def csF (r : Int) (L : List Int) (n : Nat) : List Int := (List.range n).map fun i => clampR r (L.getD i 0)
theorem asF_succ (L : List Int) (n : Nat) : asF L (n + 1) = asF L n ++ [L.getD n 0] := by simp [asF, List.range_succ]
theorem bsF_succ (L M : List Int) (n : Nat) : bsF L M (n + 1) = bsF L M n ++ [bump (L.getD n 0) (M.getD n 0)] := by simp [bsF, List.range_succ]
theorem csF_succ (r : Int) (L : List Int) (n : Nat) : csF r L (n + 1) = csF r L n ++ [clampR r (L.getD n 0)] := by simp [csF, List.range_succ]
theorem asF_len (L : List Int) (n : Nat) : (asF L n).length = n := by simp [asF]
theorem bsF_len (L M : List Int) (n : Nat) : (bsF L M n).length = n := by simp [bsF]
theorem csF_len (r : Int) (L : List Int) (n : Nat) : (csF r L n).length = n := by simp [csF]

/-- The statement in plain numbers. -/
theorem fuses_law {r m : Int} {L M : List Int} {n : Nat} (hn : n ≤ 100) (hr0 : 0 ≤ r) (hr : r ≤ 65535) (hm0 : 1 ≤ m) (hm : m ≤ 4294967296) (hL : ∀ i, -32768 ≤ L.getD i 0 ∧ L.getD i 0 ≤ 32767) (hM : ∀ i, 0 ≤ M.getD i 0 ∧ M.getD i 0 ≤ 255) :
    ∃ (a b : Int × Bool) (c : Int), meltS r m (asF L n) = (a.1, a.2, 0) ∧ meltS r m (bsF L M n) = (b.1, b.2, 0) ∧ meltS r m (csF r L n) = (c, false, 0) ∧ (a.2 = true → b.2 = true ∧ b.1 ≤ a.1) := by
  have hok : okF r m := ⟨by omega, by omega, by omega, by omega⟩
  have e : ∀ xs : List Int, xs.length = n → xs.all inR = true → meltS r m xs = ((burn r m xs 0 0).1, (burn r m xs 0 0).2, 0) := fun xs h1 h2 => by
    unfold meltS; rw [if_pos hok, if_neg (by omega), if_pos h2]
  have ha : (asF L n).all inR = true := by
    rw [List.all_eq_true]; intro x hx
    obtain ⟨i, _, rfl⟩ := List.mem_map.1 hx
    have := hL i
    exact inR_iff.2 (by omega)
  have hb : (bsF L M n).all inR = true := by
    rw [List.all_eq_true]; intro x hx
    obtain ⟨i, _, rfl⟩ := List.mem_map.1 hx
    have := hL i
    have := hM i
    exact inR_iff.2 (by unfold bump; split <;> omega)
  have hc : (csF r L n).all inR = true := by
    rw [List.all_eq_true]; intro x hx
    obtain ⟨i, _, rfl⟩ := List.mem_map.1 hx
    have := hL i
    exact inR_iff.2 (by unfold clampR; omega)
  refine ⟨burn r m (asF L n) 0 0, burn r m (bsF L M n) 0 0, (burn r m (csF r L n) 0 0).1, e _ (asF_len _ _) ha, e _ (bsF_len _ _ _) hb, ?_, ?_⟩
  · rw [e _ (csF_len _ _ _) hc]
    have : (burn r m (csF r L n) 0 0).2 = false := by
      unfold csF; rw [List.range_eq_range']; exact burn_never hm0 (fun i => clamp_sq hr0) n 0 0
    rw [this]
  · unfold asF bsF
    rw [List.range_eq_range']
    exact burn_mono (fun i => bump_sq (hM i).1 (hL i).1 (hL i).2 (hM i).2) n 0 0 0 0 (by omega)

end Go.Proofs.Ytgiinciclnekjaa
