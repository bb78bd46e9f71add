/-
  Functions that are told by a rule: what they hand back depends on their arguments' values alone.
-/
import Derived.Test.YtpdhkgfdmpofiaaGreatDoorSxo
set_option linter.unusedSimpArgs false
set_option linter.unusedVariables false
namespace Go.Proofs.YtpdhkgfdmpofiaaGreatDoor
namespace Sx
open Go.RowKit

section
variable {P : Program} {tb : Tb}
/-- The rules of some functions. -/
abbrev Rules := List (Nat × (List Sv → Option Sv))
def spR (l : Rules) (f : FuncId) : Option (List Sv → St → Tree FLeaf) := match alook l f with
  | some g => some fun args σ => match g args with
    | some v => .leaf (v, σ)
    | none => .fail
  | none => none
/-- A rule is right. -/
def RuleOk (P : Program) (f : FuncId) (g : List Sv → Option Sv) : Prop := ∀ args v, g args = some v → v.freeB = true ∧ ∀ (e : Env) (w : World), Calls P f (args.map (·.den e)).toArray w fun en w' => en = .returned (v.den e) ∧ Below w.heap.size w w'
def RulesOk (P : Program) : Rules → Prop
  | [] => True
  | (f, g) :: l => RuleOk P f g ∧ RulesOk P l
theorem RulesOk.at_ : ∀ {l : Rules}, RulesOk P l → ∀ {f g}, alook l f = some g → RuleOk P f g
  | [], _, _, _, h => by cases h
  | (k, g) :: l, hl, f, g', h => by
    simp only [alook] at h
    cases c : Nat.beq k f with
    | true =>
      rw [c] at h
      obtain rfl := beq_iff'.1 c
      obtain rfl : g = g' := by simpa using h
      exact hl.1
    | false => rw [c] at h; exact RulesOk.at_ hl.2 h
theorem spR_ok {l : Rules} (h : RulesOk P l) : SpOk P (spR l) := by
  intro f k hk args σ y hy
  unfold spR at hk
  split at hk
  · rename_i g hg
    obtain rfl := Option.some.inj hk
    simp only [] at hy
    split at hy
    · rename_i v hv
      obtain rfl := (show _ = y from hy)
      obtain ⟨h1, h2⟩ := h.at_ hg args v hv
      exact FunOk.of_any h1 h2
    · exact hy.elim
  · cases hk
/-- A rule from another one: what is known where a value is asked for in other words. -/
theorem calls_den {f : FuncId} {args : List Sv} {w : World} {a : Array Value} {v v' : Value} (h : Calls P f (args.map (·.den env0)).toArray w fun en w' => en = .returned v ∧ Below w.heap.size w w') (ha : (args.map (·.den env0)).toArray = a) (hv : v = v') :
    Calls P f a w fun en w' => en = .returned v' ∧ Below w.heap.size w w' := by subst ha hv; exact h
/-- What a tree hands back where it has one way that holds. -/
def rdB : Tree FLeaf → Bool
  | .leaf y => match y.1 with
    | .one (.b b _) => b
    | _ => false
  | .must _ t => rdB t
  | .br b t f => bif b then rdB t else rdB f
  | .fail => false
def isB : Tree FLeaf → Bool
  | .leaf y => match y.1 with
    | .one (.b _ _) => true
    | _ => false
  | .must b t => b && isB t
  | .br b t f => bif b then isB t else isB f
  | .fail => false
theorem rdB_at : ∀ {T : Tree FLeaf}, isB T = true → ∃ y l, T.At y ∧ y.1 = .one (.b (rdB T) l)
  | .leaf y, h => by
    obtain ⟨v, σ⟩ := y
    cases v with
    | one c => cases c with
      | b b l => exact ⟨_, l, rfl, rfl⟩
      | _ => cases h
    | _ => cases h
  | .must b t, h => by
    obtain ⟨h1, h2⟩ := Bool.and_eq_true_iff.1 (show (b && isB t) = true from h)
    obtain ⟨y, l, h3, h4⟩ := rdB_at h2
    exact ⟨y, l, ⟨h1, h3⟩, h4⟩
  | .br b t f, h => by
    have h' : (bif b then isB t else isB f) = true := h
    cases b with
    | true => obtain ⟨y, l, h3, h4⟩ := rdB_at (T := t) h'; exact ⟨y, l, Or.inl ⟨rfl, h3⟩, h4⟩
    | false => obtain ⟨y, l, h3, h4⟩ := rdB_at (T := f) h'; exact ⟨y, l, Or.inr ⟨rfl, h3⟩, h4⟩
/-- A truth value, from numbers: by evaluation, in any world. -/
theorem bool_any {wf : List FuncId} {sp : FuncId → Option (List Sv → St → Tree FLeaf)} {fuel d f : Nat} (hT : TbOk P tb) (hm : P.follows .mixedOrders = true) (hs : SpOk P sp) {args : List Sv} (hargs : ∀ x ∈ args, x.freeB = true)
    (h : isB (evFn tb wf sp fuel d f args st0) = true) {r : Bool} (hr : rdB (evFn tb wf sp fuel d f args st0) = r) (e : Env) (w : World) (hG : Glob0 w := by exact glob0 w) : Calls P f (args.map (·.den e)).toArray w fun en w' => en = .returned (.bool r) ∧ Below w.heap.size w w' := by
  obtain ⟨y, l, h1, h2⟩ := rdB_at h
  have := (evFn_at hT hm hs h1).any hargs (by rw [h2]; rfl) w hG
  rw [h2, hr] at this
  have he : args.map (·.den e) = args.map (·.den env0) := List.map_congr_left fun x hx => Sv.free_den (hargs x hx) env0 e
  rw [he]
  exact this
def spOr (a b : FuncId → Option (List Sv → St → Tree FLeaf)) (f : FuncId) : Option (List Sv → St → Tree FLeaf) := match a f with
  | some g => some g
  | none => b f
theorem spOr_ok {a b : FuncId → Option (List Sv → St → Tree FLeaf)} (ha : SpOk P a) (hb : SpOk P b) : SpOk P (spOr a b) := by
  intro f g hg
  unfold spOr at hg
  split at hg
  · rename_i k hk; exact ha f g (hk.trans hg)
  · exact hb f g hg
end
end Sx
end Go.Proofs.YtpdhkgfdmpofiaaGreatDoor
