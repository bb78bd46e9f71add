/-
  Votes and checks of guards, in plain numbers.
-/
import Derived.Test.YtgiinciclnekjaaSxu
set_option linter.unusedSimpArgs false
set_option linter.unusedVariables false
namespace Go.Proofs.Ytgiinciclnekjaa
open Sx

def lsG : List Lf := List.replicate 22 (.i .i64)
def lsC : List Lf := [.b, .i .i64, .i .i64, .i .i64, .i .i64, .i .i64]
def lsL : List Lf := lsC ++ lsC ++ lsC
def lsB : List Lf := [.b, .b, .b]

/-! Check -/
def cR (x : Int) : Bool := bif decide (x < 0) then true else decide (x > 1099511627776)
def cP (x : Int) : Bool := bif decide (x < 0) then true else !(bif decide (x ≥ -1099511627776) then decide (x ≤ 1099511627776) else false)
def tk (x : Int) : Bool := bif decide (x ≥ 1) then decide (x ≤ 100) else false
def ladder (e : Int) : List Bool → Int
  | [] => e
  | c :: cs => bif c then 2 else ladder e cs
def firstB : List Bool → Int → Int
  | [], _ => -1
  | c :: cs, k => bif c then k else firstB cs (k + 1)
def qsG (n : Nat → Int) : List Int := [n 0, n 1, n 2, n 3, n 4, n 5, n 21, n 6, n 7, n 8, n 9, n 10]
def dsG (n : Nat → Int) : List Int := [n 11, n 12, n 13, n 14, n 15, n 16, n 17]
def lastG (n : Nat → Int) : Bool := bif decide (n 18 < 1) then true else bif decide (n 18 > 65536) then true else bif !tk (n 19) then true else !tk (n 20)
def chkR (n : Nat → Int) : Int := ladder (ladder (bif lastG n then 2 else 0) ((dsG n).map fun x => !tk x)) ((qsG n).map cR)
def badP (n : Nat → Int) : Bool := bif decide (firstB ((qsG n).map cP) 0 ≥ 0) then true else decide (firstB ((dsG n).map fun x => !tk x) 0 ≥ 0)
def chkP (n : Nat → Int) : Int := bif (bif badP n then true else lastG n) then 2 else 0
theorem ladder_eq (e : Int) (l : List Bool) : ladder e l = if l.any id then 2 else e := by
  induction l with
  | nil => rfl
  | cons c l ih => cases c <;> simp [ladder, ih]
theorem firstB_eq (l : List Bool) : ∀ k : Int, 0 ≤ k → decide (firstB l k ≥ 0) = l.any id := by
  induction l with
  | nil => intro k _; rfl
  | cons c l ih =>
    intro k hk
    cases c with
    | true => simp [firstB, hk]
    | false => simp [firstB, ih (k + 1) (by omega)]
theorem cP_eq (x : Int) : cP x = cR x := by
  unfold cP cR
  by_cases h1 : x < 0
  · simp [h1]
  · have h2 : x ≥ -1099511627776 := by omega
    by_cases h3 : x ≤ 1099511627776
    · simp [h1, h2, h3, show ¬ 1099511627776 < x by omega]
    · simp [h1, h2, h3, show 1099511627776 < x by omega]
theorem chk_eq (n : Nat → Int) : chkP n = chkR n := by
  unfold chkP chkR badP
  rw [firstB_eq _ _ (by decide), firstB_eq _ _ (by decide), ladder_eq, ladder_eq, List.map_congr_left (fun x _ => cP_eq x)]
  cases ((qsG n).map cR).any id <;> cases ((dsG n).map fun x => !tk x).any id <;> cases lastG n <;> rfl

/-! The votes -/
def us (b c : Bool) : Bool := bif b then !c else false
def sk (b c : Bool) : Bool := bif !b then true else c
theorem sk_us (b c : Bool) : sk b c = !us b c := by cases b <;> cases c <;> rfl
def lo2 (a b : Int) : Int := bif decide (b < a) then b else a
def hi2 (a b : Int) : Int := bif decide (b < a) then a else b
def farV (a b s : Int) : Bool := decide (IntKind.u64.wrap (IntKind.u64.wrap (mm true a b) - IntKind.u64.wrap (mm false a b)) > IntKind.u64.wrap s)
def med (a b c : Int) : Int := bif decide (c < hi2 a b) then (bif decide (c < lo2 a b) then lo2 a b else c) else hi2 a b
def pLo (a b s : Int) : Int := bif !farV (lo2 a b) (hi2 a b) s then lo2 a b else 0
def pHi (a b s : Int) : Int := bif !farV (lo2 a b) (hi2 a b) s then hi2 a b else 0
def pOk (a b s : Int) : Bool := bif !farV (lo2 a b) (hi2 a b) s then true else false
/-- One of seven, by who may vote. -/
def sel {α : Type} (u0 u1 u2 : Bool) (all : α) (p : Int → Int → α) (z : α) (a b c : Int) : α :=
  bif u0 then (bif u1 then (bif u2 then all else p a b) else bif u2 then p a c else z) else bif u1 then (bif u2 then p b c else z) else bif u2 then z else z
def vLo (u0 u1 u2 : Bool) (a b c s : Int) : Int := sel u0 u1 u2 (med a b c) (fun a b => pLo a b s) 0 a b c
def vHi (u0 u1 u2 : Bool) (a b c s : Int) : Int := sel u0 u1 u2 (med a b c) (fun a b => pHi a b s) 0 a b c
def vOk (u0 u1 u2 : Bool) (a b c s : Int) : Bool := sel u0 u1 u2 true (fun a b => pOk a b s) false a b c
/-- The same, as the reference reckons. -/
def rSel {α : Type} (k0 k1 k2 : Bool) (all : Int → Int → α) (p : Int → Int → α) (z : α) (a b c : Int) : α :=
  bif k0 then (bif k1 then (bif k2 then z else z) else bif k2 then z else bif decide (b < c) then p b c else p c b)
  else bif k1 then (bif k2 then z else bif decide (a < c) then p a c else p c a)
  else bif decide (a < b) then (bif k2 then p a b else all a b) else (bif k2 then p b a else all b a)
def qLo (s a b : Int) : Int := bif !farV a b s then a else 0
def qHi (s a b : Int) : Int := bif !farV a b s then b else 0
def qOk (s a b : Int) : Bool := bif !farV a b s then true else false
def rMed (c a b : Int) : Int := bif decide (a < c) then (bif decide (b < c) then b else c) else a
def rTrue (c a b : Int) : Bool := bif decide (a < c) then (bif decide (b < c) then true else true) else true
def rLo (k0 k1 k2 : Bool) (a b c s : Int) : Int := rSel k0 k1 k2 (rMed c) (qLo s) 0 a b c
def rHi (k0 k1 k2 : Bool) (a b c s : Int) : Int := rSel k0 k1 k2 (rMed c) (qHi s) 0 a b c
def rOk (k0 k1 k2 : Bool) (a b c s : Int) : Bool := rSel k0 k1 k2 (rTrue c) (qOk s) false a b c
theorem rSel_eq {α : Type} (u0 u1 u2 : Bool) (all : α) (allR : Int → Int → α) (p q : Int → Int → α) (z : α) (a b c : Int) (hp : ∀ a b, p a b = bif decide (a < b) then q a b else q b a) (hall : (bif decide (a < b) then allR a b else allR b a) = all) :
    rSel (!u0) (!u1) (!u2) allR q z a b c = sel u0 u1 u2 all p z a b c := by
  unfold rSel sel
  simp only [hp]
  subst hall
  cases u0 <;> cases u1 <;> cases u2 <;> simp <;> (cases decide (a < b) <;> rfl)
theorem lo_eq (a b : Int) : lo2 a b = bif decide (a < b) then a else b := by
  unfold lo2
  by_cases h : b < a
  · simp [h, show ¬ a < b by omega]
  · by_cases h' : a < b
    · simp [h, h']
    · simp [h, h']; omega
theorem hi_eq (a b : Int) : hi2 a b = bif decide (a < b) then b else a := by
  unfold hi2
  by_cases h : b < a
  · simp [h, show ¬ a < b by omega]
  · by_cases h' : a < b
    · simp [h, h']
    · simp [h, h']; omega
theorem rMed_eq (a b c : Int) : (bif decide (a < b) then rMed c a b else rMed c b a) = med a b c := by
  unfold med
  rw [lo_eq, hi_eq]
  unfold rMed
  by_cases h : a < b <;> simp only [h, decide_true, decide_false, cond_true, cond_false, Bool.cond_decide] <;> (repeat' split) <;> omega
theorem rLo_eq (u0 u1 u2 : Bool) (a b c s : Int) : rLo (!u0) (!u1) (!u2) a b c s = vLo u0 u1 u2 a b c s :=
  rSel_eq u0 u1 u2 _ _ _ _ _ a b c (fun a b => by unfold pLo qLo; rw [lo_eq, hi_eq]; cases decide (a < b) <;> rfl) (rMed_eq a b c)
theorem rHi_eq (u0 u1 u2 : Bool) (a b c s : Int) : rHi (!u0) (!u1) (!u2) a b c s = vHi u0 u1 u2 a b c s :=
  rSel_eq u0 u1 u2 _ _ _ _ _ a b c (fun a b => by unfold pHi qHi; rw [lo_eq, hi_eq]; cases decide (a < b) <;> rfl) (rMed_eq a b c)
theorem rOk_eq (u0 u1 u2 : Bool) (a b c s : Int) : rOk (!u0) (!u1) (!u2) a b c s = vOk u0 u1 u2 a b c s :=
  rSel_eq u0 u1 u2 _ _ _ _ _ a b c (fun a b => by unfold pOk qOk; rw [lo_eq, hi_eq]; cases decide (a < b) <;> rfl) (by unfold rTrue; cases decide (a < b) <;> cases decide (a < c) <;> cases decide (b < c) <;> rfl)

/-! The numbers in order. -/
def numR (k0 k1 k2 : Bool) (a b c : Int) : Option (List Int) :=
  bif k0 then (bif k1 then (bif k2 then some [] else some [c]) else bif k2 then some [b] else bif decide (b < c) then some [b, c] else some [c, b])
  else bif k1 then (bif k2 then some [a] else bif decide (a < c) then some [a, c] else some [c, a])
  else bif decide (a < b) then (bif k2 then some [a, b] else bif decide (a < c) then (bif decide (b < c) then some [a, b, c] else some [a, c, b]) else some [c, a, b])
  else (bif k2 then some [b, a] else bif decide (b < c) then (bif decide (a < c) then some [b, a, c] else some [b, c, a]) else some [c, b, a])
def num2 (a b : Int) : List Int := [lo2 a b, hi2 a b]
def num3 (a b c : Int) : List Int := [lo2 (lo2 a b) c, med a b c, hi2 (hi2 a b) c]
def numS (u0 u1 u2 : Bool) (a b c : Int) : List Int :=
  bif u0 then (bif u1 then (bif u2 then num3 a b c else num2 a b) else bif u2 then num2 a c else [a]) else bif u1 then (bif u2 then num2 b c else [b]) else bif u2 then [c] else []
theorem num2_eq (a b : Int) : (bif decide (a < b) then some [a, b] else some [b, a]) = some (num2 a b) := by
  unfold num2
  rw [lo_eq, hi_eq]
  cases decide (a < b) <;> rfl
theorem lo_min (a b : Int) : lo2 a b = min a b := by
  rw [lo_eq]
  by_cases h : a < b
  · simp only [h, decide_true, cond_true]; omega
  · simp only [h, decide_false, cond_false]; omega
theorem hi_max (a b : Int) : hi2 a b = max a b := by
  rw [hi_eq]
  by_cases h : a < b
  · simp only [h, decide_true, cond_true]; omega
  · simp only [h, decide_false, cond_false]; omega
theorem med_mm (a b c : Int) : med a b c = max (min a b) (min (max a b) c) := by
  unfold med
  rw [lo_min, hi_max]
  by_cases h : c < max a b
  · simp only [h, decide_true, cond_true]
    by_cases h' : c < min a b
    · simp only [h', decide_true, cond_true]; omega
    · simp only [h', decide_false, cond_false]; omega
  · simp only [h, decide_false, cond_false]; omega
theorem num3_eq (a b c : Int) : numR false false false a b c = some (num3 a b c) := by
  unfold num3
  rw [med_mm, lo_min, lo_min, hi_max, hi_max]
  unfold numR
  by_cases h1 : a < b <;> by_cases h2 : a < c <;> by_cases h3 : b < c
  all_goals
    simp only [h1, h2, h3, decide_true, decide_false, cond_true, cond_false, Option.some.injEq, List.cons.injEq, and_true]
    refine ⟨by omega, by omega, by omega⟩
theorem numR_eq (u0 u1 u2 : Bool) (a b c : Int) : numR (!u0) (!u1) (!u2) a b c = some (numS u0 u1 u2 a b c) := by
  cases u0 <;> cases u1 <;> cases u2
  · rfl
  · rfl
  · rfl
  · exact num2_eq b c
  · rfl
  · exact num2_eq a c
  · show numR false false true a b c = some (num2 a b)
    rw [← num2_eq a b]
    rfl
  · exact num3_eq a b c
end Go.Proofs.Ytgiinciclnekjaa
