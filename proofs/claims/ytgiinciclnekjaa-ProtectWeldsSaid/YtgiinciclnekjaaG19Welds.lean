/-
  Rules: holds, current and apart of a panel, holds and apart of the reference.
-/
import Derived.Test.YtgiinciclnekjaaG14Welds
import Derived.Test.YtgiinciclnekjaaG15Welds
import Derived.Test.YtgiinciclnekjaaG18Welds
import Derived.Test.YtgiinciclnekjaaG4Welds
set_option linter.unusedSimpArgs false
set_option linter.unusedVariables false
namespace Go.Proofs.Ytgiinciclnekjaa
open Sx Go.RowKit
set_option maxRecDepth 100000
def panT (V : (Nat → Int) → (Nat → Bool) → (Nat → Int) → Vv) : List Sv → St → Tree FLeaf
  | [.one (.ptr id (.lit 0))], σ => match alook σ.bk id with
    | some (.ar t _ (.ptr gid (.lit 0) :: cs) _) => match alook σ.bk gid with
      | some (.ar t' _ gs _) => match Nat.beq t 145 && Nat.beq t' 25 && isL (lsL ++ lsB) cs && isL lsG gs with
        | true => .leaf ((V (nOf gs) (bOf cs) (nOf cs)).sv, σ)
        | false => .fail
      | _ => .fail
    | _ => .fail
  | _, _ => .fail
theorem panT_ok {f : FuncId} {V : (Nat → Int) → (Nat → Bool) → (Nat → Int) → Vv} (hF : ∀ n b m, ∃ σ', FunOk Try.prog f [.one (.ptr 1 (.lit 0))] (stP n b m) (V n b m).sv σ') {args : List Sv} {σ : St} {y : FLeaf} (h : (panT V args σ).At y) : FunOk Try.prog f args σ y.1 y.2 := by
  unfold panT at h
  split at h
  · rename_i σ id
    split at h
    · rename_i t ro gid cs cp hb
      split at h
      · rename_i t' ro' gs cp' hg
        split at h
        · rename_i hL
          simp only [Bool.and_eq_true] at hL
          obtain ⟨⟨⟨h1, h2⟩, h3⟩, h4⟩ := hL
          obtain rfl := beq_iff'.1 h1
          obtain rfl := beq_iff'.1 h2
          obtain rfl : _ = y := h
          obtain ⟨σ', hF'⟩ := hF (nOf gs) (bOf cs) (nOf cs)
          refine FunOk.ren (ρ := fun i => if i = 1 then id else gid) hF' ?_ rfl (fun e => rfl) (fun x hx => ?_) (Vv.sv_free _)
          · exact ⟨⟨_, _, _, _, _, rfl, hb, same_cons (fun e => rfl) (same_isL h3)⟩, ⟨_, _, _, _, _, rfl, hg, same_isL h4⟩, trivial⟩
          · simp only [List.mem_cons, List.not_mem_nil, or_false] at hx
            subst hx
            exact ⟨rfl, trivial⟩
        · exact h.elim
      · exact h.elim
    · exact h.elim
  · exact h.elim
def refT (V : (Nat → Int) → (Nat → Bool) → (Nat → Int) → (Nat → Bool) → Vv) : List Sv → Option Sv
  | [.agg gs, .agg cs, .agg bs] => match isL lsG gs && isL lsL cs && isL lsB bs with
    | true => some (V (nOf gs) (bOf cs) (nOf cs) (bOf bs)).sv
    | false => none
  | _ => none
theorem glb_free (n : Nat → Int) (b : Nat → Bool) (m : Nat → Int) (c : Nat → Bool) (z : Nat → Int) : ∀ x ∈ ([.agg (symL (fun _ => false) n 0 lsG), .agg (symL b m 0 lsL), .agg (symL c z 0 lsB)] : List Sv), x.freeB = true := fun x hx => by
  simp only [List.mem_cons, List.not_mem_nil, or_false] at hx
  rcases hx with rfl | rfl | rfl <;> exact symL_free _ _ _ _
theorem refT_ok {f : FuncId} {V : (Nat → Int) → (Nat → Bool) → (Nat → Int) → (Nat → Bool) → Vv} (h : ∀ n b m c z (w : World), Calls Try.prog f (([.agg (symL (fun _ => false) n 0 lsG), .agg (symL b m 0 lsL), .agg (symL c z 0 lsB)] : List Sv).map (·.den env0)).toArray w fun en w' => en = .returned ((V n b m c).sv.den env0) ∧ Below w.heap.size w w') : RuleOk Try.prog f (refT V) := by
  intro args v hv
  unfold refT at hv
  split at hv
  · rename_i gs cs bs
    split at hv
    · rename_i hL
      simp only [Bool.and_eq_true] at hL
      obtain ⟨⟨h1, h2⟩, h3⟩ := hL
      obtain rfl := Option.some.inj hv
      refine ⟨Vv.sv_free _, fun e w => ?_⟩
      have := h (nOf gs) (bOf cs) (nOf cs) (bOf bs) (nOf bs) w
      have e1 : (Sv.agg gs).den e = (Sv.agg (symL (fun _ => false) (nOf gs) 0 lsG)).den env0 := canon_den h1 e env0
      have e2 : (Sv.agg cs).den e = (Sv.agg (symL (bOf cs) (nOf cs) 0 lsL)).den env0 := canon_den h2 e env0
      have e3 : (Sv.agg bs).den e = (Sv.agg (symL (bOf bs) (nOf bs) 0 lsB)).den env0 := canon_den h3 e env0
      simp only [List.map_cons, List.map_nil] at this ⊢
      rw [e1, e2, e3, Sv.free_den (Vv.sv_free _) env0 e]
      exact this
    · cases hv
  · cases hv

def VhoP (n : Nat → Int) (b : Nat → Bool) (m : Nat → Int) : Vv := .agg ((hoR n b m (fun i => b (18 + i))).map Lv.b)
def VcuP (n : Nat → Int) (b : Nat → Bool) (m : Nat → Int) : Vv := .one (.b (cuP n b m (fun i => b (18 + i))))
def VapP (n : Nat → Int) (b : Nat → Bool) (m : Nat → Int) : Vv := .agg [.b (apP n b m (fun i => b (18 + i)) 0), .b (apP n b m (fun i => b (18 + i)) 1), .b (apP n b m (fun i => b (18 + i)) 2)]
def VhoR (n : Nat → Int) (b : Nat → Bool) (m : Nat → Int) (c : Nat → Bool) : Vv := .agg ((hoR n b m c).map Lv.b)
def VapR (n : Nat → Int) (b : Nat → Bool) (m : Nat → Int) (c : Nat → Bool) : Vv := .agg [.b (apP n b m c 0), .b (apP n b m c 1), .b (apP n b m c 2)]
noncomputable def spP : FuncId → Option (List Sv → St → Tree FLeaf) := fun f => match Nat.beq f 61 with
  | true => some (panT VhoP)
  | false => match Nat.beq f 62 with
    | true => some (panT VcuP)
    | false => match Nat.beq f 64 with
      | true => some (panT VapP)
      | false => spOr (spR [(77, refT VhoR), (78, refT VapR)]) spV f
theorem spP_ok : SpOk Try.prog spP := by
  intro f g hf args σ y hy
  unfold spP at hf
  split at hf
  · rename_i h1
    obtain rfl := beq_iff'.1 h1
    obtain rfl := Option.some.inj hf
    exact panT_ok (fun n b m => by
      have := res_ok tbl_ok tbl_any spV_ok (ho_eval n b m) (fun _ h => by cases h)
      rw [ho_eq] at this
      exact this) hy
  · split at hf
    · rename_i h1
      obtain rfl := beq_iff'.1 h1
      obtain rfl := Option.some.inj hf
      exact panT_ok (fun n b m => res_ok tbl_ok tbl_any spV_ok (cu_eval n b m) (fun _ h => by cases h)) hy
    · split at hf
      · rename_i h1
        obtain rfl := beq_iff'.1 h1
        obtain rfl := Option.some.inj hf
        exact panT_ok (fun n b m => res_ok tbl_ok tbl_any spL_ok (ap_eval n b m) (fun _ h => by cases h)) hy
      · refine spOr_ok (spR_ok (l := [(77, refT VhoR), (78, refT VapR)]) ⟨?_, ?_, trivial⟩) spV_ok f g hf args σ y hy
        · exact refT_ok fun n b m c z w => res_any tbl_ok tbl_any spV_ok (glb_free n b m c z) (hr_eval n b m c z) (fun _ h => by cases h) w
        · refine refT_ok fun n b m c z w => ?_
          have := res_any tbl_ok tbl_any spN_ok (glb_free n b m c z) (ar_eval n b m c z) (fun _ h => by cases h) w
          simp only [apR_eq] at this
          exact this
end Go.Proofs.Ytgiinciclnekjaa

/-
  A step of a machine: the states from which it is reckoned.
-/
set_option linter.unusedSimpArgs false
set_option linter.unusedVariables false
namespace Go.Proofs.Ytgiinciclnekjaa
open Sx Go.RowKit
set_option maxRecDepth 100000
/-- The cells behind a machine's guard and phase: cause, marks, held, away, missing, timer, act. -/
def lsM : List Lf := [.i .i64, .b, .b, .b] ++ List.replicate 12 (.i .i64) ++ [.b, .b, .b, .b]
def lsS : List Lf := lsC ++ lsC ++ lsC ++ List.replicate 9 .b ++ [.i .i64, .i .i64, .b, .b]
def stM (p : Int) (n : Nat → Int) (b : Nat → Bool) (m : Nat → Int) : St := stW 95 (.ptr 0 (.lit 0) :: .i .i64 p true :: symL b m 0 lsM) 25 (symL (fun _ => false) n 0 lsG)
/-- A step, from a phase that stands written out. -/
noncomputable def stT (p : Int) (n : Nat → Int) (b : Nat → Bool) (m : Nat → Int) (h : Nat → Bool) (s : Nat → Int) : Tree FLeaf := evFn tbl wr5 spP 300 12 20 [.one (.ptr 1 (.lit 0)), .agg (symL h s 0 lsS)] (stM p n b m)
/-- It hands back an act and an error, and leaves a machine. -/
def okS (T : Tree FLeaf) : Bool := match peelF T with
  | some ([], (.tup [(true, ac), (false, [.i .i64 _ _])], σ)) => isL [.b, .b, .b, .b] ac && match alook σ.bk 1 with
    | some (.ar t false (.ptr 0 (.lit 0) :: .i .i64 _ _ :: cs) none) => Nat.beq t 95 && isL lsM cs
    | _ => false
  | _ => false
end Go.Proofs.Ytgiinciclnekjaa
