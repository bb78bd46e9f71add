/-
  Rules: Vote, Holds, Apart, Reaction: the same on both sides.
-/
import Derived.Test.YtgiinciclnekjaaWr
set_option linter.unusedSimpArgs false
set_option linter.unusedVariables false
namespace Go.Proofs.Ytgiinciclnekjaa
open Sx Go.RowKit
set_option maxRecDepth 100000
def VvoC (n : Nat → Int) (b : Nat → Bool) (m : Nat → Int) (c : Nat → Bool) (q : Int) : Vv := Vvo (kG n) (oP q) (sLo n b c (L18 b m) q) (sHi n b c (L18 b m) q) (sOk n b c (L18 b m) q) 2
theorem e_chk (n : Nat → Int) (out : Bool) (lo hi : Int) (ok : Bool) : Vvo (kG n) out lo hi ok (chkR n) = Vvo (kG n) out lo hi ok 2 := by
  unfold Vvo
  rw [kG_e]
theorem VvoP_eq (n : Nat → Int) (b : Nat → Bool) (m : Nat → Int) (c : Nat → Bool) (z : Nat → Int) (q : Int) : Vvo (kG n) (oP q) (sLo n b c (L21 b m c z) q) (sHi n b c (L21 b m c z) q) (sOk n b c (L21 b m c z) q) (chkR n) = VvoC n b m c q := by
  rw [e_chk]
  unfold VvoC
  by_cases h : 0 ≤ q ∧ q < 5
  · rcases lt5 h with rfl | rfl | rfl | rfl | rfl <;> rfl
  · have : oP q = true := by rw [oP_eq]; simp; omega
    rw [this]
    cases kG n <;> rfl
theorem must_o (n : Nat → Int) (q : Int) : (kG n || (oP q || decide (0 ≤ q ∧ q < 5))) = true := by
  rw [oP_eq]
  cases kG n <;> cases decide (0 ≤ q ∧ q < 5) <;> rfl
theorem must_c (n : Nat → Int) (q l : Int) : (kG n || (ocP q l || decide (0 ≤ IntKind.i64.wrap (q - 1) ∧ IntKind.i64.wrap (q - 1) < ((7 : Nat) : Int)))) = true := by
  cases h : ocP q l with
  | true => cases kG n <;> rfl
  | false =>
    have hq : 1 ≤ q ∧ q ≤ 6 := by
      unfold ocP at h
      by_cases h1 : q < 1
      · simp [h1] at h
      · by_cases h2 : q > 6
        · simp [h1, h2] at h
        · omega
    have hw : IntKind.i64.wrap (q - 1) = q - 1 := Go.IntWalk.i64_in _ ⟨by omega, by omega⟩
    rw [hw]
    have : decide (0 ≤ q - 1 ∧ q - 1 < ((7 : Nat) : Int)) = true := by simp; omega
    rw [this]
    cases kG n <;> rfl
def ruleVo : List Sv → Option Sv
  | [.agg gs, .agg cs, .agg bs, .one (.i .i64 q _)] => match isL lsG gs && isL lsL cs && isL lsB bs with
    | true => some (VvoC (nOf gs) (bOf cs) (nOf cs) (bOf bs) q).sv
    | false => none
  | _ => none
theorem vo_ok {f : FuncId} (h : ∀ n b m c z q (w : World), Calls Try.prog f (([aG n, aL b m, aB c z, .one (.i .i64 q false)] : List Sv).map (·.den env0)).toArray w fun en w' => en = .returned ((VvoC n b m c q).sv.den env0) ∧ Below w.heap.size w w') : RuleOk Try.prog f ruleVo := by
  intro args v hv
  unfold ruleVo at hv
  split at hv
  · rename_i gs cs bs q l
    split at hv
    · rename_i hL
      simp only [Bool.and_eq_true] at hL
      obtain ⟨⟨h1, h2⟩, h3⟩ := hL
      obtain rfl := Option.some.inj hv
      refine ⟨Vv.sv_free _, fun e w => ?_⟩
      have := h (nOf gs) (bOf cs) (nOf cs) (bOf bs) (nOf bs) q w
      have e1 : (Sv.agg gs).den e = (Sv.agg (symL (fun _ => false) (nOf gs) 0 lsG)).den env0 := canon_den h1 e env0
      have e2 : (Sv.agg cs).den e = (Sv.agg (symL (bOf cs) (nOf cs) 0 lsL)).den env0 := canon_den h2 e env0
      have e3 : (Sv.agg bs).den e = (Sv.agg (symL (bOf bs) (nOf bs) 0 lsB)).den env0 := canon_den h3 e env0
      simp only [List.map_cons, List.map_nil] at this ⊢
      rw [e1, e2, e3, Sv.free_den (Vv.sv_free _) env0 e]
      exact this
    · cases hv
  · cases hv
theorem four_free (n : Nat → Int) (b : Nat → Bool) (m : Nat → Int) (c : Nat → Bool) (z : Nat → Int) (q : Int) : ∀ x ∈ ([aG n, aL b m, aB c z, .one (.i .i64 q false)] : List Sv), x.freeB = true := fun x hx => by
  simp only [List.mem_cons, List.not_mem_nil, or_false] at hx
  rcases hx with rfl | rfl | rfl | rfl <;> first | exact symL_free _ _ _ _ | rfl
def ruleRe : List Sv → Option Sv
  | [.agg gs, .one (.i .i64 q _), .one (.i .i64 l _)] => match isL lsG gs with
    | true => some (Vre (kG (nOf gs)) (ocP q l) q l (nOf gs) 2).sv
    | false => none
  | _ => none
theorem re_ok {f : FuncId} (h : ∀ n q l (w : World), Calls Try.prog f (([aG n, .one (.i .i64 q false), .one (.i .i64 l false)] : List Sv).map (·.den env0)).toArray w fun en w' => en = .returned ((Vre (kG n) (ocP q l) q l n 2).sv.den env0) ∧ Below w.heap.size w w') : RuleOk Try.prog f ruleRe := by
  intro args v hv
  unfold ruleRe at hv
  split at hv
  · rename_i gs q _ l _
    split at hv
    · rename_i hL
      obtain rfl := Option.some.inj hv
      refine ⟨Vv.sv_free _, fun e w => ?_⟩
      have := h (nOf gs) q l w
      have e1 : (Sv.agg gs).den e = (Sv.agg (symL (fun _ => false) (nOf gs) 0 lsG)).den env0 := canon_den hL e env0
      simp only [List.map_cons, List.map_nil] at this ⊢
      rw [e1, Sv.free_den (Vv.sv_free _) env0 e]
      exact this
    · cases hv
  · cases hv
theorem two_free (n : Nat → Int) (q l : Int) : ∀ x ∈ ([aG n, .one (.i .i64 q false), .one (.i .i64 l false)] : List Sv), x.freeB = true := fun x hx => by
  simp only [List.mem_cons, List.not_mem_nil, or_false] at hx
  rcases hx with rfl | rfl | rfl <;> first | exact symL_free _ _ _ _ | rfl
theorem one_must {b : Bool} (h : b = true) : ∀ x ∈ [b], x = true := fun x hx => by
  simp only [List.mem_cons, List.not_mem_nil, or_false] at hx
  subst hx; exact h
def VhC (n : Nat → Int) (b : Nat → Bool) (m : Nat → Int) (c : Nat → Bool) : Vv := Vls (kG n) (hoR n b m c) 2
def VaC (n : Nat → Int) (b : Nat → Bool) (m : Nat → Int) (c : Nat → Bool) : Vv := Vls (kG n) (apLs n b m c) 2
theorem Vls_e (n : Nat → Int) (l : List Bool) : Vls (kG n) l (chkR n) = Vls (kG n) l 2 := by unfold Vls; rw [kG_e]
theorem Vre_e (n : Nat → Int) (o : Bool) (q l : Int) : Vre (kG n) o q l n (chkR n) = Vre (kG n) o q l n 2 := by unfold Vre; rw [kG_e]
noncomputable def rules7 : Rules := [(22, ruleVo), (25, ruleVo), (26, refT VhC), (27, refT VhC), (28, refT VaC), (29, refT VaC), (30, ruleRe), (31, ruleRe), (15, ruleChk), (14, ruleChk)]
theorem rules7_ok : RulesOk Try.prog rules7 := by
  refine ⟨?_, ?_, ?_, ?_, ?_, ?_, ?_, ?_, chkP_ok, chkR_ok, trivial⟩
  · exact vo_ok fun n b m c z q w => by
      have := res_any tbl_ok tbl_any spP_ok (four_free n b m c z q) (wvP_eval n b m c z q) (one_must (must_o n q)) w
      rw [VvoP_eq] at this
      exact this
  · exact vo_ok fun n b m c z q w => by
      have := res_any tbl_ok tbl_any spP_ok (four_free n b m c z q) (wvR_eval n b m c z q) (one_must (by rw [oR_eq]; exact must_o n q)) w
      rw [oR_eq] at this
      exact this
  · exact refT_ok fun n b m c z w => by
      have := res_any tbl_ok tbl_any spP_ok (glb_free n b m c z) (whP_eval n b m c z) (fun _ h => by cases h) w
      rw [Vls_e] at this
      exact this
  · exact refT_ok fun n b m c z w => res_any tbl_ok tbl_any spP_ok (glb_free n b m c z) (whR_eval n b m c z) (fun _ h => by cases h) w
  · exact refT_ok fun n b m c z w => by
      have := res_any tbl_ok tbl_any spP_ok (glb_free n b m c z) (waP_eval n b m c z) (fun _ h => by cases h) w
      rw [Vls_e] at this
      exact this
  · exact refT_ok fun n b m c z w => res_any tbl_ok tbl_any spP_ok (glb_free n b m c z) (waR_eval n b m c z) (fun _ h => by cases h) w
  · exact re_ok fun n q l w => by
      have := res_any tbl_ok tbl_any spP_ok (two_free n q l) (wrP_eval n q l) (one_must (must_c n q l)) w
      rw [Vre_e] at this
      exact this
  · exact re_ok fun n q l w => by
      have := res_any tbl_ok tbl_any spP_ok (two_free n q l) (wrR_eval n q l) (one_must (by rw [ocR_eq]; exact must_c n q l)) w
      rw [ocR_eq] at this
      exact this
noncomputable def sp7 : FuncId → Option (List Sv → St → Tree FLeaf) := spOr (spR rules7) (spTrue 16)
theorem sp7_ok : SpOk Try.prog sp7 := spOr_ok (spR_ok rules7_ok) (spTrue_ok works5_any)
end Go.Proofs.Ytgiinciclnekjaa
