/-
  Rules: Check, the votes of a panel, the reference's votes.
-/
import Derived.Test.YtgiinciclnekjaaG6Welds
import Derived.Test.YtgiinciclnekjaaG8Welds
import Derived.Test.YtgiinciclnekjaaG9Welds
import Derived.Test.YtgiinciclnekjaaG10Welds
import Derived.Test.YtgiinciclnekjaaG11Welds
import Derived.Test.YtgiinciclnekjaaG12Welds
import Derived.Test.YtgiinciclnekjaaG13Welds
import Derived.Test.YtgiinciclnekjaaG5Welds
set_option linter.unusedSimpArgs false
set_option linter.unusedVariables false
namespace Go.Proofs.Ytgiinciclnekjaa
open Sx Go.RowKit
set_option maxRecDepth 100000

/-! Check -/
def ruleChk : List Sv → Option Sv
  | [.agg cs] => match isL lsG cs with
    | true => some (.one (.i .i64 (chkR (nOf cs)) false))
    | false => none
  | _ => none
theorem chk_ok {f : FuncId} (h : ∀ n, ∃ x : Int, x = chkR n ∧ ∃ d fuel, res (evFn tbl [] (fun _ => none) fuel d f [.agg (symL (fun _ => false) n 0 lsG)] st0) = some ([], .one (.i .i64 x))) : RuleOk Try.prog f ruleChk := by
  intro args v hv
  unfold ruleChk at hv
  split at hv
  · rename_i cs
    split at hv
    · rename_i hL
      obtain rfl := Option.some.inj hv
      refine ⟨rfl, fun e w => ?_⟩
      obtain ⟨x, rfl, d, fuel, hx⟩ := h (nOf cs)
      have h1 := res_any tbl_ok tbl_any spNone (args := [.agg (symL (fun _ => false) (nOf cs) 0 lsG)]) (fun x hx => by
        simp only [List.mem_cons, List.not_mem_nil, or_false] at hx
        subst hx
        exact symL_free _ _ _ _) hx (fun _ h => by cases h) w
      have h2 : (Sv.agg cs).den e = (Sv.agg (symL (fun _ => false) (nOf cs) 0 lsG)).den env0 := canon_den hL e env0
      simp only [List.map_cons, List.map_nil]
      rw [h2]
      exact h1
    · cases hv
  · cases hv
theorem chkP_ok : RuleOk Try.prog 15 ruleChk := chk_ok fun n => ⟨chkP n, chk_eq n, _, _, chkP_eval n⟩
theorem chkR_ok : RuleOk Try.prog 14 ruleChk := chk_ok fun n => ⟨chkR n, rfl, _, _, chkR_eval n⟩

/-! The reference's votes -/
def voS (n : Nat → Int) (h : Nat → Bool) (m : Nat → Int) (c : Nat → Bool) (q : Nat) : List Cv :=
  [.i .i64 (vLo (us (h 0) (c 0)) (us (h 6) (c 1)) (us (h 12) (c 2)) (m (1 + q)) (m (7 + q)) (m (13 + q)) (n (6 + q))) false,
   .i .i64 (vHi (us (h 0) (c 0)) (us (h 6) (c 1)) (us (h 12) (c 2)) (m (1 + q)) (m (7 + q)) (m (13 + q)) (n (6 + q))) false,
   .b (vOk (us (h 0) (c 0)) (us (h 6) (c 1)) (us (h 12) (c 2)) (m (1 + q)) (m (7 + q)) (m (13 + q)) (n (6 + q))) false]
def rvT : List Sv → St → Tree FLeaf
  | [.agg gs, .agg cs, .agg bs, .one (.i .i64 q l)], σ => match isL lsG gs && isL lsL cs && isL lsB bs with
    | true => mustL l (decide (0 ≤ q ∧ q < 5)) (.leaf (.tup ((voS (nOf gs) (bOf cs) (nOf cs) (bOf bs) q.toNat).map fun c => (false, [c])), σ))
    | false => .fail
  | _, _ => .fail
theorem mustL_at {α : Type} {l b : Bool} {t : Tree α} {y : α} (h : (mustL l b t).At y) : b = true ∧ t.At y := by
  cases l with
  | true => cases b with
    | true => exact ⟨rfl, h⟩
    | false => exact h.elim
  | false => exact h
theorem lt5 {q : Int} (h : 0 ≤ q ∧ q < 5) : q = 0 ∨ q = 1 ∨ q = 2 ∨ q = 3 ∨ q = 4 := by omega
theorem vrV_eq (n : Nat → Int) (b : Nat → Bool) (m : Nat → Int) (c : Nat → Bool) (q : Nat) : (vrV n b m c q).sv = .tup ((voS n b m c q).map fun x => (false, [x])) := by
  unfold vrV voS
  simp only [Vv.sv, List.map_cons, List.map_nil, Lv.cv, sk_us, rLo_eq, rHi_eq, rOk_eq]
theorem rv_any (n : Nat → Int) (b : Nat → Bool) (m : Nat → Int) (c : Nat → Bool) (z : Nat → Int) (q : Nat) (hq : q < 5) (w : World) :
    Calls Try.prog 76 (([.agg (symL (fun _ => false) n 0 lsG), .agg (symL b m 0 lsL), .agg (symL c z 0 lsB), .one (.i .i64 q true)] : List Sv).map (·.den env0)).toArray w fun en w' => en = .returned ((vrV n b m c q).sv.den env0) ∧ Below w.heap.size w w' := by
  have hf : ∀ q : Nat, ∀ x ∈ ([.agg (symL (fun _ => false) n 0 lsG), .agg (symL b m 0 lsL), .agg (symL c z 0 lsB), .one (.i .i64 q true)] : List Sv), x.freeB = true := fun q x hx => by
    simp only [List.mem_cons, List.not_mem_nil, or_false] at hx
    rcases hx with rfl | rfl | rfl | rfl <;> first | exact symL_free _ _ _ _ | rfl
  match q, hq with
  | 0, _ => exact res_any tbl_ok tbl_any spNone (hf 0) (vr_eval0 n b m c z) (fun _ h => by cases h) w
  | 1, _ => exact res_any tbl_ok tbl_any spNone (hf 1) (vr_eval1 n b m c z) (fun _ h => by cases h) w
  | 2, _ => exact res_any tbl_ok tbl_any spNone (hf 2) (vr_eval2 n b m c z) (fun _ h => by cases h) w
  | 3, _ => exact res_any tbl_ok tbl_any spNone (hf 3) (vr_eval3 n b m c z) (fun _ h => by cases h) w
  | 4, _ => exact res_any tbl_ok tbl_any spNone (hf 4) (vr_eval4 n b m c z) (fun _ h => by cases h) w
theorem rv_ok {args : List Sv} {σ : St} {y : FLeaf} (h : (rvT args σ).At y) : FunOk Try.prog 76 args σ y.1 y.2 := by
  unfold rvT at h
  split at h
  · rename_i σ gs cs bs q l
    split at h
    · rename_i hL
      simp only [Bool.and_eq_true] at hL
      obtain ⟨⟨h1, h2⟩, h3⟩ := hL
      obtain ⟨hq, hy⟩ := mustL_at h
      obtain rfl : _ = y := hy
      have hq' : 0 ≤ q ∧ q < 5 := by simpa using hq
      obtain ⟨k, rfl⟩ := Int.eq_ofNat_of_zero_le hq'.1
      have hk : k < 5 := by omega
      refine FunOk.of_any rfl fun e w => ?_
      have := rv_any (nOf gs) (bOf cs) (nOf cs) (bOf bs) (nOf bs) k hk w
      have e1 : (Sv.agg gs).den e = (Sv.agg (symL (fun _ => false) (nOf gs) 0 lsG)).den env0 := canon_den h1 e env0
      have e2 : (Sv.agg cs).den e = (Sv.agg (symL (bOf cs) (nOf cs) 0 lsL)).den env0 := canon_den h2 e env0
      have e3 : (Sv.agg bs).den e = (Sv.agg (symL (bOf bs) (nOf bs) 0 lsB)).den env0 := canon_den h3 e env0
      simp only [List.map_cons, List.map_nil] at this ⊢
      rw [e1, e2, e3]
      rw [vrV_eq] at this
      exact this
    · exact h.elim
  · exact h.elim

/-! The votes of a panel -/
def pvT : List Sv → St → Tree FLeaf
  | [.one (.ptr id (.lit 0)), .one (.i .i64 q l)], σ => match alook σ.bk id with
    | some (.ar t _ (.ptr gid (.lit 0) :: cs) _) => match alook σ.bk gid with
      | some (.ar t' _ gs _) => match Nat.beq t 145 && Nat.beq t' 25 && isL (lsL ++ lsB) cs && isL lsG gs with
        | true => mustL l (decide (0 ≤ q ∧ q < 5)) (.leaf (.agg (voS (nOf gs) (bOf cs) (nOf cs) (fun i => bOf cs (18 + i)) q.toNat), σ))
        | false => .fail
      | _ => .fail
    | _ => .fail
  | _, _ => .fail
theorem pv_fun (n : Nat → Int) (b : Nat → Bool) (m : Nat → Int) (q : Nat) (hq : q < 5) : ∃ σ', FunOk Try.prog 74 [.one (.ptr 1 (.lit 0)), .one (.i .i64 q true)] (stP n b m) (vpV n b m q).sv σ' := by
  match q, hq with
  | 0, _ => exact res_ok tbl_ok tbl_any spL_ok (vp_eval0 n b m) (fun _ h => by cases h)
  | 1, _ => exact res_ok tbl_ok tbl_any spL_ok (vp_eval1 n b m) (fun _ h => by cases h)
  | 2, _ => exact res_ok tbl_ok tbl_any spL_ok (vp_eval2 n b m) (fun _ h => by cases h)
  | 3, _ => exact res_ok tbl_ok tbl_any spL_ok (vp_eval3 n b m) (fun _ h => by cases h)
  | 4, _ => exact res_ok tbl_ok tbl_any spL_ok (vp_eval4 n b m) (fun _ h => by cases h)
theorem pv_ok {args : List Sv} {σ : St} {y : FLeaf} (h : (pvT args σ).At y) : FunOk Try.prog 74 args σ y.1 y.2 := by
  unfold pvT at h
  split at h
  · rename_i σ id q l
    split at h
    · rename_i t ro gid cs cp hb
      split at h
      · rename_i t' ro' gs cp' hg
        split at h
        · rename_i hL
          simp only [Bool.and_eq_true] at hL
          obtain ⟨⟨⟨h1, h2⟩, h3⟩, h4⟩ := hL
          obtain rfl := beq_iff'.1 h1
          obtain rfl := beq_iff'.1 h2
          obtain ⟨hq, hy⟩ := mustL_at h
          obtain rfl : _ = y := hy
          have hq' : 0 ≤ q ∧ q < 5 := by simpa using hq
          obtain ⟨k, rfl⟩ := Int.eq_ofNat_of_zero_le hq'.1
          obtain ⟨σ', hF⟩ := pv_fun (nOf gs) (bOf cs) (nOf cs) k (by omega)
          refine FunOk.ren (ρ := fun i => if i = 1 then id else gid) hF ?_ rfl (fun e => rfl) (fun x hx => ?_) rfl
          · exact ⟨⟨_, _, _, _, _, rfl, hb, same_cons (fun e => rfl) (same_isL h3)⟩, ⟨_, _, _, _, _, rfl, hg, same_isL h4⟩, trivial⟩
          · simp only [List.mem_cons, List.not_mem_nil, or_false] at hx
            rcases hx with rfl | rfl
            · exact ⟨rfl, trivial⟩
            · trivial
        · exact h.elim
      · exact h.elim
    · exact h.elim
  · exact h.elim
/-- All of them. -/
noncomputable def spV : FuncId → Option (List Sv → St → Tree FLeaf) := fun f => match Nat.beq f 74 with
  | true => some pvT
  | false => match Nat.beq f 76 with
    | true => some rvT
    | false => spR [(15, ruleChk), (14, ruleChk), (114, ruleLess)] f
theorem spV_ok : SpOk Try.prog spV := by
  intro f g hf args σ y hy
  unfold spV at hf
  split at hf
  · rename_i h1
    obtain rfl := beq_iff'.1 h1
    obtain rfl := Option.some.inj hf
    exact pv_ok hy
  · split at hf
    · rename_i h2
      obtain rfl := beq_iff'.1 h2
      obtain rfl := Option.some.inj hf
      exact rv_ok hy
    · exact spR_ok (l := [(15, ruleChk), (14, ruleChk), (114, ruleLess)]) ⟨chkP_ok, chkR_ok, less_ok, trivial⟩ f g hf args σ y hy
end Go.Proofs.Ytgiinciclnekjaa

/-
  panel.holds, panel.current, the reference's holds: at every panel.
-/
set_option linter.unusedSimpArgs false
set_option linter.unusedVariables false
namespace Go.Proofs.Ytgiinciclnekjaa
open Sx Go.RowKit
set_option maxRecDepth 100000
def oQ (n : Nat → Int) (h : Nat → Bool) (m : Nat → Int) (c : Nat → Bool) (q : Nat) : Bool := vOk (us (h 0) (c 0)) (us (h 6) (c 1)) (us (h 12) (c 2)) (m (1 + q)) (m (7 + q)) (m (13 + q)) (n (6 + q))
def lQ (n : Nat → Int) (h : Nat → Bool) (m : Nat → Int) (c : Nat → Bool) (q : Nat) : Int := vLo (us (h 0) (c 0)) (us (h 6) (c 1)) (us (h 12) (c 2)) (m (1 + q)) (m (7 + q)) (m (13 + q)) (n (6 + q))
def hQ (n : Nat → Int) (h : Nat → Bool) (m : Nat → Int) (c : Nat → Bool) (q : Nat) : Int := vHi (us (h 0) (c 0)) (us (h 6) (c 1)) (us (h 12) (c 2)) (m (1 + q)) (m (7 + q)) (m (13 + q)) (n (6 + q))
def ho6 (n : Nat → Int) (h : Nat → Bool) (m : Nat → Int) (c : Nat → Bool) : List Bool :=
  [bif oQ n h m c 0 then decide (hQ n h m c 0 > n 0) else false, bif oQ n h m c 1 then decide (lQ n h m c 1 < n 1) else false, bif oQ n h m c 2 then decide (hQ n h m c 2 > n 2) else false,
   bif oQ n h m c 2 then decide (lQ n h m c 2 < IntKind.i64.wrap (0 - n 3)) else false, bif oQ n h m c 3 then decide (hQ n h m c 3 > n 4) else false, bif oQ n h m c 4 then decide (lQ n h m c 4 < n 5) else false]
def noP (n : Nat → Int) (h : Nat → Bool) (m : Nat → Int) (c : Nat → Bool) : Bool :=
  bif bif bif bif bif !oQ n h m c 0 then true else !oQ n h m c 1 then true else !oQ n h m c 2 then true else !oQ n h m c 2 then true else !oQ n h m c 3 then true else !oQ n h m c 4
def hoP (n : Nat → Int) (h : Nat → Bool) (m : Nat → Int) (c : Nat → Bool) : List Bool := ho6 n h m c ++ [noP n h m c]
theorem ho_eval (n : Nat → Int) (b : Nat → Bool) (m : Nat → Int) : res (evFn tbl wr5 spV 300 12 61 [.one (.ptr 1 (.lit 0))] (stP n b m)) = some ([], .agg ((hoP n b m (fun i => b (18 + i))).map Lv.b)) := by kernel_rfl
def cuP (n : Nat → Int) (h : Nat → Bool) (m : Nat → Int) (c : Nat → Bool) : Bool := bif oQ n h m c 2 then (bif decide (hQ n h m c 2 > n 21) then true else decide (lQ n h m c 2 < IntKind.i64.wrap (0 - n 21))) else false
theorem cu_eval (n : Nat → Int) (b : Nat → Bool) (m : Nat → Int) : res (evFn tbl wr5 spV 300 12 62 [.one (.ptr 1 (.lit 0))] (stP n b m)) = some ([], .one (.b (cuP n b m (fun i => b (18 + i))))) := by kernel_rfl
end Go.Proofs.Ytgiinciclnekjaa

/-
  The reference's holds, at every guard and channels.
-/
set_option linter.unusedSimpArgs false
set_option linter.unusedVariables false
namespace Go.Proofs.Ytgiinciclnekjaa
open Sx Go.RowKit
set_option maxRecDepth 100000
def noR (n : Nat → Int) (h : Nat → Bool) (m : Nat → Int) (c : Nat → Bool) : Bool :=
  bif !oQ n h m c 0 then true else bif !oQ n h m c 1 then true else bif !oQ n h m c 2 then true else bif !oQ n h m c 3 then true else !oQ n h m c 4
def hoR (n : Nat → Int) (h : Nat → Bool) (m : Nat → Int) (c : Nat → Bool) : List Bool := ho6 n h m c ++ [noR n h m c]
theorem hr_eval (n : Nat → Int) (b : Nat → Bool) (m : Nat → Int) (c : Nat → Bool) (z : Nat → Int) : res (evFn tbl [] spV 300 12 77 [.agg (symL (fun _ => false) n 0 lsG), .agg (symL b m 0 lsL), .agg (symL c z 0 lsB)] st0) = some ([], .agg ((hoR n b m c).map Lv.b)) := by kernel_rfl
theorem no_eq (n : Nat → Int) (h : Nat → Bool) (m : Nat → Int) (c : Nat → Bool) : noP n h m c = noR n h m c := by
  unfold noP noR
  cases oQ n h m c 0 <;> cases oQ n h m c 1 <;> cases oQ n h m c 2 <;> cases oQ n h m c 3 <;> cases oQ n h m c 4 <;> rfl
theorem ho_eq (n : Nat → Int) (h : Nat → Bool) (m : Nat → Int) (c : Nat → Bool) : hoP n h m c = hoR n h m c := by unfold hoP hoR; rw [no_eq]
end Go.Proofs.Ytgiinciclnekjaa

/-
  Which channels are apart, in plain numbers.
-/
set_option linter.unusedSimpArgs false
set_option linter.unusedVariables false
namespace Go.Proofs.Ytgiinciclnekjaa
open Sx

/-! Which channels are apart. -/
def tri {α : Type} (u0 u1 u2 : Bool) (x y : α) : α := bif u0 then (bif u1 then (bif u2 then x else y) else bif u2 then y else y) else bif u1 then (bif u2 then y else y) else bif u2 then y else y
theorem tri_eq {α : Type} (u0 u1 u2 : Bool) (x y : α) : tri u0 u1 u2 x y = bif (u0 && u1 && u2) then x else y := by cases u0 <;> cases u1 <;> cases u2 <;> rfl
def apF (u0 u1 u2 : Bool) : List Bool → Bool → Bool
  | [], acc => acc
  | f :: fs, acc => tri u0 u1 u2 (apF u0 u1 u2 fs (bif acc then true else f)) acc
def tri3 {α : Type} (u0 u1 u2 : Bool) (x y : α) : α := bif u0 then (bif u1 then (bif u2 then x else y) else y) else y
theorem tri3_eq {α : Type} (u0 u1 u2 : Bool) (x y : α) : tri3 u0 u1 u2 x y = bif (u0 && u1 && u2) then x else y := by cases u0 <;> cases u1 <;> cases u2 <;> rfl
def apL (u0 u1 u2 : Bool) : List Bool → Bool → Bool
  | [], acc => acc
  | f :: fs, acc => apL u0 u1 u2 fs (tri3 u0 u1 u2 (bif f then true else acc) acc)
theorem apF_eq (u0 u1 u2 : Bool) : ∀ (fs : List Bool) (acc : Bool), apF u0 u1 u2 fs acc = (acc || (u0 && u1 && u2 && fs.any id))
  | [], acc => by simp [apF]
  | f :: fs, acc => by
    rw [apF, tri_eq, apF_eq u0 u1 u2 fs]
    cases u0 && u1 && u2 <;> cases acc <;> cases f <;> simp
theorem apL_eq (u0 u1 u2 : Bool) : ∀ (fs : List Bool) (acc : Bool), apL u0 u1 u2 fs acc = (acc || (u0 && u1 && u2 && fs.any id))
  | [], acc => by simp [apL]
  | f :: fs, acc => by
    rw [apL, tri3_eq, apL_eq u0 u1 u2 fs]
    cases u0 && u1 && u2 <;> cases acc <;> cases f <;> simp
/-- Whether a channel is far from the middle one, of each quantity. -/
def farL (m n : Nat → Int) (o : Nat) : List Bool := [farV (m (o + 0)) (med (m 1) (m 7) (m 13)) (n 6), farV (m (o + 1)) (med (m 2) (m 8) (m 14)) (n 7), farV (m (o + 2)) (med (m 3) (m 9) (m 15)) (n 8), farV (m (o + 3)) (med (m 4) (m 10) (m 16)) (n 9), farV (m (o + 4)) (med (m 5) (m 11) (m 17)) (n 10)]
def apP (n : Nat → Int) (h : Nat → Bool) (m : Nat → Int) (c : Nat → Bool) (i : Nat) : Bool := apF (us (h 0) (c 0)) (us (h 6) (c 1)) (us (h 12) (c 2)) (farL m n (6 * i + 1)) (bif !c i then !h (6 * i) else false)
def apR (n : Nat → Int) (h : Nat → Bool) (m : Nat → Int) (c : Nat → Bool) (i : Nat) : Bool := apL (us (h 0) (c 0)) (us (h 6) (c 1)) (us (h 12) (c 2)) (farL m n (6 * i + 1)) (bif (bif !c i then !h (6 * i) else false) then true else false)
theorem apR_eq (n : Nat → Int) (h : Nat → Bool) (m : Nat → Int) (c : Nat → Bool) (i : Nat) : apR n h m c i = apP n h m c i := by
  unfold apR apP
  rw [apF_eq, apL_eq]
  cases (bif !c i then !h (6 * i) else false) <;> rfl
end Go.Proofs.Ytgiinciclnekjaa
