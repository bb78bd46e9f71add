/-
  Rules: Check, the votes of a panel, the reference's votes.
-/
import Derived.Test.YtgiinciclnekjaaCk5
import Derived.Test.YtgiinciclnekjaaVp0
import Derived.Test.YtgiinciclnekjaaVp1
import Derived.Test.YtgiinciclnekjaaVp2
import Derived.Test.YtgiinciclnekjaaVp3
import Derived.Test.YtgiinciclnekjaaVp4
import Derived.Test.YtgiinciclnekjaaVr0
import Derived.Test.YtgiinciclnekjaaVr1
import Derived.Test.YtgiinciclnekjaaVr2
import Derived.Test.YtgiinciclnekjaaVr3
import Derived.Test.YtgiinciclnekjaaVr4
set_option linter.unusedSimpArgs false
set_option linter.unusedVariables false
namespace Go.Proofs.Ytgiinciclnekjaa
open Sx Go.RowKit
set_option maxRecDepth 100000

/-! Check -/
def ruleChk : List Sv → Option Sv
  | [.agg cs] => match isL lsG cs with
    | true => some (.one (.i .i64 (chkR (nOf cs)) false))
    | false => none
  | _ => none
theorem chk_ok {f : FuncId} (h : ∀ n, ∃ x : Int, x = chkR n ∧ ∃ d fuel, res (evFn tbl [] (fun _ => none) fuel d f [.agg (symL (fun _ => false) n 0 lsG)] st0) = some ([], .one (.i .i64 x))) : RuleOk Try.prog f ruleChk := by
  intro args v hv
  unfold ruleChk at hv
  split at hv
  · rename_i cs
    split at hv
    · rename_i hL
      obtain rfl := Option.some.inj hv
      refine ⟨rfl, fun e w => ?_⟩
      obtain ⟨x, rfl, d, fuel, hx⟩ := h (nOf cs)
      have h1 := res_any tbl_ok tbl_any spNone (args := [.agg (symL (fun _ => false) (nOf cs) 0 lsG)]) (fun x hx => by
        simp only [List.mem_cons, List.not_mem_nil, or_false] at hx
        subst hx
        exact symL_free _ _ _ _) hx (fun _ h => by cases h) w
      have h2 : (Sv.agg cs).den e = (Sv.agg (symL (fun _ => false) (nOf cs) 0 lsG)).den env0 := canon_den hL e env0
      simp only [List.map_cons, List.map_nil]
      rw [h2]
      exact h1
    · cases hv
  · cases hv
theorem chkP_ok : RuleOk Try.prog 15 ruleChk := chk_ok fun n => ⟨chkP n, chk_eq n, _, _, chkP_eval n⟩
theorem chkR_ok : RuleOk Try.prog 14 ruleChk := chk_ok fun n => ⟨chkR n, rfl, _, _, chkR_eval n⟩

/-! The reference's votes -/
def voS (n : Nat → Int) (h : Nat → Bool) (m : Nat → Int) (c : Nat → Bool) (q : Nat) : List Cv :=
  [.i .i64 (vLo (us (h 0) (c 0)) (us (h 6) (c 1)) (us (h 12) (c 2)) (m (1 + q)) (m (7 + q)) (m (13 + q)) (n (6 + q))) false,
   .i .i64 (vHi (us (h 0) (c 0)) (us (h 6) (c 1)) (us (h 12) (c 2)) (m (1 + q)) (m (7 + q)) (m (13 + q)) (n (6 + q))) false,
   .b (vOk (us (h 0) (c 0)) (us (h 6) (c 1)) (us (h 12) (c 2)) (m (1 + q)) (m (7 + q)) (m (13 + q)) (n (6 + q))) false]
def rvT : List Sv → St → Tree FLeaf
  | [.agg gs, .agg cs, .agg bs, .one (.i .i64 q l)], σ => match isL lsG gs && isL lsL cs && isL lsB bs with
    | true => mustL l (decide (0 ≤ q ∧ q < 5)) (.leaf (.tup ((voS (nOf gs) (bOf cs) (nOf cs) (bOf bs) q.toNat).map fun c => (false, [c])), σ))
    | false => .fail
  | _, _ => .fail
theorem mustL_at {α : Type} {l b : Bool} {t : Tree α} {y : α} (h : (mustL l b t).At y) : b = true ∧ t.At y := by
  cases l with
  | true => cases b with
    | true => exact ⟨rfl, h⟩
    | false => exact h.elim
  | false => exact h
theorem lt5 {q : Int} (h : 0 ≤ q ∧ q < 5) : q = 0 ∨ q = 1 ∨ q = 2 ∨ q = 3 ∨ q = 4 := by omega
theorem vrV_eq (n : Nat → Int) (b : Nat → Bool) (m : Nat → Int) (c : Nat → Bool) (q : Nat) : (vrV n b m c q).sv = .tup ((voS n b m c q).map fun x => (false, [x])) := by
  unfold vrV voS
  simp only [Vv.sv, List.map_cons, List.map_nil, Lv.cv, sk_us, rLo_eq, rHi_eq, rOk_eq]
theorem rv_any (n : Nat → Int) (b : Nat → Bool) (m : Nat → Int) (c : Nat → Bool) (z : Nat → Int) (q : Nat) (hq : q < 5) (w : World) :
    Calls Try.prog 76 (([.agg (symL (fun _ => false) n 0 lsG), .agg (symL b m 0 lsL), .agg (symL c z 0 lsB), .one (.i .i64 q true)] : List Sv).map (·.den env0)).toArray w fun en w' => en = .returned ((vrV n b m c q).sv.den env0) ∧ Below w.heap.size w w' := by
  have hf : ∀ q : Nat, ∀ x ∈ ([.agg (symL (fun _ => false) n 0 lsG), .agg (symL b m 0 lsL), .agg (symL c z 0 lsB), .one (.i .i64 q true)] : List Sv), x.freeB = true := fun q x hx => by
    simp only [List.mem_cons, List.not_mem_nil, or_false] at hx
    rcases hx with rfl | rfl | rfl | rfl <;> first | exact symL_free _ _ _ _ | rfl
  match q, hq with
  | 0, _ => exact res_any tbl_ok tbl_any spNone (hf 0) (vr_eval0 n b m c z) (fun _ h => by cases h) w
  | 1, _ => exact res_any tbl_ok tbl_any spNone (hf 1) (vr_eval1 n b m c z) (fun _ h => by cases h) w
  | 2, _ => exact res_any tbl_ok tbl_any spNone (hf 2) (vr_eval2 n b m c z) (fun _ h => by cases h) w
  | 3, _ => exact res_any tbl_ok tbl_any spNone (hf 3) (vr_eval3 n b m c z) (fun _ h => by cases h) w
  | 4, _ => exact res_any tbl_ok tbl_any spNone (hf 4) (vr_eval4 n b m c z) (fun _ h => by cases h) w
theorem rv_ok {args : List Sv} {σ : St} {y : FLeaf} (h : (rvT args σ).At y) : FunOk Try.prog 76 args σ y.1 y.2 := by
  unfold rvT at h
  split at h
  · rename_i σ gs cs bs q l
    split at h
    · rename_i hL
      simp only [Bool.and_eq_true] at hL
      obtain ⟨⟨h1, h2⟩, h3⟩ := hL
      obtain ⟨hq, hy⟩ := mustL_at h
      obtain rfl : _ = y := hy
      have hq' : 0 ≤ q ∧ q < 5 := by simpa using hq
      obtain ⟨k, rfl⟩ := Int.eq_ofNat_of_zero_le hq'.1
      have hk : k < 5 := by omega
      refine FunOk.of_any rfl fun e w => ?_
      have := rv_any (nOf gs) (bOf cs) (nOf cs) (bOf bs) (nOf bs) k hk w
      have e1 : (Sv.agg gs).den e = (Sv.agg (symL (fun _ => false) (nOf gs) 0 lsG)).den env0 := canon_den h1 e env0
      have e2 : (Sv.agg cs).den e = (Sv.agg (symL (bOf cs) (nOf cs) 0 lsL)).den env0 := canon_den h2 e env0
      have e3 : (Sv.agg bs).den e = (Sv.agg (symL (bOf bs) (nOf bs) 0 lsB)).den env0 := canon_den h3 e env0
      simp only [List.map_cons, List.map_nil] at this ⊢
      rw [e1, e2, e3]
      rw [vrV_eq] at this
      exact this
    · exact h.elim
  · exact h.elim

/-! The votes of a panel -/
def pvT : List Sv → St → Tree FLeaf
  | [.one (.ptr id (.lit 0)), .one (.i .i64 q l)], σ => match alook σ.bk id with
    | some (.ar t _ (.ptr gid (.lit 0) :: cs) _) => match alook σ.bk gid with
      | some (.ar t' _ gs _) => match Nat.beq t 145 && Nat.beq t' 25 && isL (lsL ++ lsB) cs && isL lsG gs with
        | true => mustL l (decide (0 ≤ q ∧ q < 5)) (.leaf (.agg (voS (nOf gs) (bOf cs) (nOf cs) (fun i => bOf cs (18 + i)) q.toNat), σ))
        | false => .fail
      | _ => .fail
    | _ => .fail
  | _, _ => .fail
theorem pv_fun (n : Nat → Int) (b : Nat → Bool) (m : Nat → Int) (q : Nat) (hq : q < 5) : ∃ σ', FunOk Try.prog 74 [.one (.ptr 1 (.lit 0)), .one (.i .i64 q true)] (stP n b m) (vpV n b m q).sv σ' := by
  match q, hq with
  | 0, _ => exact res_ok tbl_ok tbl_any spL_ok (vp_eval0 n b m) (fun _ h => by cases h)
  | 1, _ => exact res_ok tbl_ok tbl_any spL_ok (vp_eval1 n b m) (fun _ h => by cases h)
  | 2, _ => exact res_ok tbl_ok tbl_any spL_ok (vp_eval2 n b m) (fun _ h => by cases h)
  | 3, _ => exact res_ok tbl_ok tbl_any spL_ok (vp_eval3 n b m) (fun _ h => by cases h)
  | 4, _ => exact res_ok tbl_ok tbl_any spL_ok (vp_eval4 n b m) (fun _ h => by cases h)
theorem pv_ok {args : List Sv} {σ : St} {y : FLeaf} (h : (pvT args σ).At y) : FunOk Try.prog 74 args σ y.1 y.2 := by
  unfold pvT at h
  split at h
  · rename_i σ id q l
    split at h
    · rename_i t ro gid cs cp hb
      split at h
      · rename_i t' ro' gs cp' hg
        split at h
        · rename_i hL
          simp only [Bool.and_eq_true] at hL
          obtain ⟨⟨⟨h1, h2⟩, h3⟩, h4⟩ := hL
          obtain rfl := beq_iff'.1 h1
          obtain rfl := beq_iff'.1 h2
          obtain ⟨hq, hy⟩ := mustL_at h
          obtain rfl : _ = y := hy
          have hq' : 0 ≤ q ∧ q < 5 := by simpa using hq
          obtain ⟨k, rfl⟩ := Int.eq_ofNat_of_zero_le hq'.1
          obtain ⟨σ', hF⟩ := pv_fun (nOf gs) (bOf cs) (nOf cs) k (by omega)
          refine FunOk.ren (ρ := fun i => if i = 1 then id else gid) hF ?_ rfl (fun e => rfl) (fun x hx => ?_) rfl
          · exact ⟨⟨_, _, _, _, _, rfl, hb, same_cons (fun e => rfl) (same_isL h3)⟩, ⟨_, _, _, _, _, rfl, hg, same_isL h4⟩, trivial⟩
          · simp only [List.mem_cons, List.not_mem_nil, or_false] at hx
            rcases hx with rfl | rfl
            · exact ⟨rfl, trivial⟩
            · trivial
        · exact h.elim
      · exact h.elim
    · exact h.elim
  · exact h.elim
/-- All of them. -/
noncomputable def spV : FuncId → Option (List Sv → St → Tree FLeaf) := fun f => match Nat.beq f 74 with
  | true => some pvT
  | false => match Nat.beq f 76 with
    | true => some rvT
    | false => spR [(15, ruleChk), (14, ruleChk), (114, ruleLess)] f
theorem spV_ok : SpOk Try.prog spV := by
  intro f g hf args σ y hy
  unfold spV at hf
  split at hf
  · rename_i h1
    obtain rfl := beq_iff'.1 h1
    obtain rfl := Option.some.inj hf
    exact pv_ok hy
  · split at hf
    · rename_i h2
      obtain rfl := beq_iff'.1 h2
      obtain rfl := Option.some.inj hf
      exact rv_ok hy
    · exact spR_ok (l := [(15, ruleChk), (14, ruleChk), (114, ruleLess)]) ⟨chkP_ok, chkR_ok, less_ok, trivial⟩ f g hf args σ y hy
end Go.Proofs.Ytgiinciclnekjaa
