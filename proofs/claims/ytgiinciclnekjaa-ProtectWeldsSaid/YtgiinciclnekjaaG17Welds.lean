/-
  Rule: the reference's numbers.
-/
import Derived.Test.YtgiinciclnekjaaG16Welds
set_option linter.unusedSimpArgs false
set_option linter.unusedVariables false
namespace Go.Proofs.Ytgiinciclnekjaa
open Sx Go.RowKit
set_option maxRecDepth 100000
def leafR (σ : St) (xs : List Int) : Tree FLeaf := .leaf (rowSv σ xs, rowSt σ 2 xs)
def selT (u0 u1 u2 : Bool) (σ : St) (a b c : Int) : Tree FLeaf :=
  .br u0 (.br u1 (.br u2 (leafR σ (num3 a b c)) (leafR σ (num2 a b))) (.br u2 (leafR σ (num2 a c)) (leafR σ [a]))) (.br u1 (.br u2 (leafR σ (num2 b c)) (leafR σ [b])) (.br u2 (leafR σ [c]) (leafR σ [])))
theorem selT_at {u0 u1 u2 : Bool} {σ : St} {a b c : Int} {y : FLeaf} (h : (selT u0 u1 u2 σ a b c).At y) : y = (rowSv σ (numS u0 u1 u2 a b c), rowSt σ 2 (numS u0 u1 u2 a b c)) := by
  unfold selT leafR at h
  simp only [Tree.At] at h
  unfold numS
  rcases h with ⟨rfl, ⟨rfl, ⟨rfl, h⟩ | ⟨rfl, h⟩⟩ | ⟨rfl, ⟨rfl, h⟩ | ⟨rfl, h⟩⟩⟩ | ⟨rfl, ⟨rfl, ⟨rfl, h⟩ | ⟨rfl, h⟩⟩ | ⟨rfl, ⟨rfl, h⟩ | ⟨rfl, h⟩⟩⟩ <;> exact h.symm
def nuT : List Sv → St → Tree FLeaf
  | [.agg cs, .agg bs, .one (.i .i64 q l)], σ => match isL lsL cs && isL lsB bs && (alook σ.bk σ.nx).isNone && !memb σ.nl σ.nn with
    | true => mustL l (decide (0 ≤ q ∧ q < 5)) (selT (us (bOf cs 0) (bOf bs 0)) (us (bOf cs 6) (bOf bs 1)) (us (bOf cs 12) (bOf bs 2)) σ (nOf cs (1 + q.toNat)) (nOf cs (7 + q.toNat)) (nOf cs (13 + q.toNat)))
    | false => .fail
  | _, _ => .fail
theorem mustL_at' {α : Type} {l b : Bool} {t : Tree α} {y : α} (h : (mustL l b t).At y) : b = true ∧ t.At y := by
  cases l with
  | true => cases b with
    | true => exact ⟨rfl, h⟩
    | false => exact h.elim
  | false => exact h
theorem nu_any (b : Nat → Bool) (m : Nat → Int) (c : Nat → Bool) (z : Nat → Int) (q : Nat) (hq : q < 5) (e : Env) (w : World) :
    Calls Try.prog 95 (([.agg (symL b m 0 lsL), .agg (symL c z 0 lsB), .one (.i .i64 q true)] : List Sv).map (·.den e)).toArray w fun en w' => ∃ v, en = .returned v ∧ NewRow w w' v (numS (us (b 0) (c 0)) (us (b 6) (c 1)) (us (b 12) (c 2)) (m (1 + q)) (m (7 + q)) (m (13 + q))) ∧ Below w.heap.size w w' := by
  have hf : ∀ q : Nat, ∀ x ∈ ([.agg (symL b m 0 lsL), .agg (symL c z 0 lsB), .one (.i .i64 q true)] : List Sv), x.freeB = true := fun q x hx => by
    simp only [List.mem_cons, List.not_mem_nil, or_false] at hx
    rcases hx with rfl | rfl | rfl <;> first | exact symL_free _ _ _ _ | rfl
  have hv : nuV b m c q = some (numS (us (b 0) (c 0)) (us (b 6) (c 1)) (us (b 12) (c 2)) (m (1 + q)) (m (7 + q)) (m (13 + q))) := by
    unfold nuV; rw [sk_us, sk_us, sk_us, numR_eq]
  have key : ∀ q : Nat, rdR (evFn tbl [95 + 100000] (fun _ => none) 100 8 95 [.agg (symL b m 0 lsL), .agg (symL c z 0 lsB), .one (.i .i64 q true)] st0) = nuV b m c q → nuV b m c q = some (numS (us (b 0) (c 0)) (us (b 6) (c 1)) (us (b 12) (c 2)) (m (1 + q)) (m (7 + q)) (m (13 + q))) →
      Calls Try.prog 95 (([.agg (symL b m 0 lsL), .agg (symL c z 0 lsB), .one (.i .i64 q true)] : List Sv).map (·.den e)).toArray w fun en w' => ∃ v, en = .returned v ∧ NewRow w w' v (numS (us (b 0) (c 0)) (us (b 6) (c 1)) (us (b 12) (c 2)) (m (1 + q)) (m (7 + q)) (m (13 + q))) ∧ Below w.heap.size w w' := fun q h1 h2 => by
    obtain ⟨y, h3, h4⟩ := rdR_at (h1.trans h2)
    exact row_any (evFn_at tbl_ok tbl_any spNone h3) h4 (hf q) e w
  match q, hq with
  | 0, _ => exact key 0 (nu_eval0 b m c z) hv
  | 1, _ => exact key 1 (nu_eval1 b m c z) hv
  | 2, _ => exact key 2 (nu_eval2 b m c z) hv
  | 3, _ => exact key 3 (nu_eval3 b m c z) hv
  | 4, _ => exact key 4 (nu_eval4 b m c z) hv
theorem nu_ok {args : List Sv} {σ : St} {y : FLeaf} (h : (nuT args σ).At y) : FunOk Try.prog 95 args σ y.1 y.2 := by
  unfold nuT at h
  split at h
  · rename_i σ cs bs q l
    split at h
    · rename_i hL
      simp only [Bool.and_eq_true, Bool.not_eq_true', Option.isNone_iff_eq_none] at hL
      obtain ⟨⟨⟨h2, h3⟩, h4⟩, h5⟩ := hL
      obtain ⟨hq, hy⟩ := mustL_at' h
      have hq' : 0 ≤ q ∧ q < 5 := by simpa using hq
      obtain ⟨k, rfl⟩ := Int.eq_ofNat_of_zero_le hq'.1
      obtain rfl := selT_at hy
      refine row_fun h4 h5 fun e w => ?_
      have := nu_any (bOf cs) (nOf cs) (bOf bs) (nOf bs) k (by omega) e w
      have e2 : (Sv.agg cs).den e = (Sv.agg (symL (bOf cs) (nOf cs) 0 lsL)).den e := canon_den h2 e e
      have e3 : (Sv.agg bs).den e = (Sv.agg (symL (bOf bs) (nOf bs) 0 lsB)).den e := canon_den h3 e e
      simp only [List.map_cons, List.map_nil] at this ⊢
      rw [e2, e3]
      exact this
    · exact h.elim
  · exact h.elim
noncomputable def spN : FuncId → Option (List Sv → St → Tree FLeaf) := fun f => match Nat.beq f 95 with
  | true => some nuT
  | false => none
theorem spN_ok : SpOk Try.prog spN := by
  intro f g hf args σ y hy
  unfold spN at hf
  split at hf
  · rename_i h1
    obtain rfl := beq_iff'.1 h1
    obtain rfl := Option.some.inj hf
    exact nu_ok hy
  · cases hf
end Go.Proofs.Ytgiinciclnekjaa
