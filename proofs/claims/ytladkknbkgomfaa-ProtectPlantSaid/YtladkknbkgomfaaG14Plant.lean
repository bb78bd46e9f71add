/-
  Functions that are told by a rule: what they hand back depends on their arguments' values alone.
-/
import Derived.Test.YtladkknbkgomfaaG13Plant
import Derived.Test.YtladkknbkgomfaaG0Plant
import Derived.KernelRfl
import Derived.Test.YtladkknbkgomfaaG4Plant
set_option linter.unusedSimpArgs false
set_option linter.unusedVariables false
namespace Go.Proofs.Ytladkknbkgomfaa
namespace Sx
open Go.RowKit

section
variable {P : Program} {tb : Tb}
/-- The rules of some functions. -/
abbrev Rules := List (Nat × (List Sv → Option Sv))
def spR (l : Rules) (f : FuncId) : Option (List Sv → St → Tree FLeaf) := match alook l f with
  | some g => some fun args σ => match g args with
    | some v => .leaf (v, σ)
    | none => .fail
  | none => none
/-- A rule is right. -/
def RuleOk (P : Program) (f : FuncId) (g : List Sv → Option Sv) : Prop := ∀ args v, g args = some v → v.freeB = true ∧ ∀ (e : Env) (w : World), Calls P f (args.map (·.den e)).toArray w fun en w' => en = .returned (v.den e) ∧ Below w.heap.size w w'
def RulesOk (P : Program) : Rules → Prop
  | [] => True
  | (f, g) :: l => RuleOk P f g ∧ RulesOk P l
theorem RulesOk.at_ : ∀ {l : Rules}, RulesOk P l → ∀ {f g}, alook l f = some g → RuleOk P f g
  | [], _, _, _, h => by cases h
  | (k, g) :: l, hl, f, g', h => by
    simp only [alook] at h
    cases c : Nat.beq k f with
    | true =>
      rw [c] at h
      obtain rfl := beq_iff'.1 c
      obtain rfl : g = g' := by simpa using h
      exact hl.1
    | false => rw [c] at h; exact RulesOk.at_ hl.2 h
theorem spR_ok {l : Rules} (h : RulesOk P l) : SpOk P (spR l) := by
  intro f k hk args σ y hy
  unfold spR at hk
  split at hk
  · rename_i g hg
    obtain rfl := Option.some.inj hk
    simp only [] at hy
    split at hy
    · rename_i v hv
      obtain rfl := (show _ = y from hy)
      obtain ⟨h1, h2⟩ := h.at_ hg args v hv
      exact FunOk.of_any h1 h2
    · exact hy.elim
  · cases hk
/-- A rule from another one: what is known where a value is asked for in other words. -/
theorem calls_den {f : FuncId} {args : List Sv} {w : World} {a : Array Value} {v v' : Value} (h : Calls P f (args.map (·.den env0)).toArray w fun en w' => en = .returned v ∧ Below w.heap.size w w') (ha : (args.map (·.den env0)).toArray = a) (hv : v = v') :
    Calls P f a w fun en w' => en = .returned v' ∧ Below w.heap.size w w' := by subst ha hv; exact h
/-- What a tree hands back where it has one way that holds. -/
def rdB : Tree FLeaf → Bool
  | .leaf y => match y.1 with
    | .one (.b b _) => b
    | _ => false
  | .must _ t => rdB t
  | .br b t f => bif b then rdB t else rdB f
  | .fail => false
def isB : Tree FLeaf → Bool
  | .leaf y => match y.1 with
    | .one (.b _ _) => true
    | _ => false
  | .must b t => b && isB t
  | .br b t f => bif b then isB t else isB f
  | .fail => false
theorem rdB_at : ∀ {T : Tree FLeaf}, isB T = true → ∃ y l, T.At y ∧ y.1 = .one (.b (rdB T) l)
  | .leaf y, h => by
    obtain ⟨v, σ⟩ := y
    cases v with
    | one c => cases c with
      | b b l => exact ⟨_, l, rfl, rfl⟩
      | _ => cases h
    | _ => cases h
  | .must b t, h => by
    obtain ⟨h1, h2⟩ := Bool.and_eq_true_iff.1 (show (b && isB t) = true from h)
    obtain ⟨y, l, h3, h4⟩ := rdB_at h2
    exact ⟨y, l, ⟨h1, h3⟩, h4⟩
  | .br b t f, h => by
    have h' : (bif b then isB t else isB f) = true := h
    cases b with
    | true => obtain ⟨y, l, h3, h4⟩ := rdB_at (T := t) h'; exact ⟨y, l, Or.inl ⟨rfl, h3⟩, h4⟩
    | false => obtain ⟨y, l, h3, h4⟩ := rdB_at (T := f) h'; exact ⟨y, l, Or.inr ⟨rfl, h3⟩, h4⟩
/-- A truth value, from numbers: by evaluation, in any world. -/
theorem bool_any {wf : List FuncId} {sp : FuncId → Option (List Sv → St → Tree FLeaf)} {fuel d f : Nat} (hT : TbOk P tb) (hm : P.follows .mixedOrders = true) (hs : SpOk P sp) {args : List Sv} (hargs : ∀ x ∈ args, x.freeB = true)
    (h : isB (evFn tb wf sp fuel d f args st0) = true) {r : Bool} (hr : rdB (evFn tb wf sp fuel d f args st0) = r) (e : Env) (w : World) (hG : Glob0 w := by exact glob0 w) : Calls P f (args.map (·.den e)).toArray w fun en w' => en = .returned (.bool r) ∧ Below w.heap.size w w' := by
  obtain ⟨y, l, h1, h2⟩ := rdB_at h
  have := (evFn_at hT hm hs h1).any hargs (by rw [h2]; rfl) w hG
  rw [h2, hr] at this
  have he : args.map (·.den e) = args.map (·.den env0) := List.map_congr_left fun x hx => Sv.free_den (hargs x hx) env0 e
  rw [he]
  exact this
def spOr (a b : FuncId → Option (List Sv → St → Tree FLeaf)) (f : FuncId) : Option (List Sv → St → Tree FLeaf) := match a f with
  | some g => some g
  | none => b f
theorem spOr_ok {a b : FuncId → Option (List Sv → St → Tree FLeaf)} (ha : SpOk P a) (hb : SpOk P b) : SpOk P (spOr a b) := by
  intro f g hg
  unfold spOr at hg
  split at hg
  · rename_i k hk; exact ha f g (hk.trans hg)
  · exact hb f g hg
end
end Sx
end Go.Proofs.Ytladkknbkgomfaa

/-
  A function that only reads: what is known of it at one state is known at every state that has the same blocks under other names.
-/
set_option linter.unusedSimpArgs false
set_option linter.unusedVariables false
namespace Go.Proofs.Ytladkknbkgomfaa
namespace Sx
open Go.RowKit

section
variable {P : Program} {tb : Tb}
def Pv.ren (ρ : Nat → Nat) : Pv → Pv
  | .ptr id off => .ptr (ρ id) off
  | p => p
def Cv.ren (ρ : Nat → Nat) : Cv → Cv
  | .ptr id off => .ptr (ρ id) off
  | .slc id off len cap => .slc (ρ id) off len cap
  | .fn f caps => .fn f (caps.map (Pv.ren ρ))
  | c => c
def Sv.ren (ρ : Nat → Nat) : Sv → Sv
  | .one c => .one (c.ren ρ)
  | .agg cs => .agg (cs.map (Cv.ren ρ))
  | .tup vs => .tup (vs.map fun p => (p.1, p.2.map (Cv.ren ρ)))
def Env.ren (e : Env) (ρ : Nat → Nat) : Env := ⟨fun id => e.pl (ρ id), e.nm⟩
theorem Pv.ren_den (ρ : Nat → Nat) (e : Env) (p : Pv) : (p.ren ρ).den e = p.den (e.ren ρ) := by cases p <;> rfl
theorem Sn.ren_den (ρ : Nat → Nat) (e : Env) (n : Sn) : n.den (e.ren ρ) = n.den e := by cases n <;> rfl
theorem Cv.ren_den (ρ : Nat → Nat) (e : Env) (c : Cv) : (c.ren ρ).den e = c.den (e.ren ρ) := by
  cases c with
  | ptr id off => simp only [Cv.ren, Cv.den, Sn.ren_den]; rfl
  | slc id off len cap => simp only [Cv.ren, Cv.den, Sn.ren_den]; rfl
  | fn f caps => simp only [Cv.ren, Cv.den, List.map_map, Function.comp_def, Pv.ren_den]
  | _ => rfl
theorem densA_ren (ρ : Nat → Nat) (e : Env) (cs : List Cv) : densA e (cs.map (Cv.ren ρ)) = densA (e.ren ρ) cs := by
  unfold densA
  rw [List.map_map]
  congr 1
  exact List.map_congr_left fun c _ => Cv.ren_den ρ e c
theorem Sv.ren_den (ρ : Nat → Nat) (e : Env) (v : Sv) : (v.ren ρ).den e = v.den (e.ren ρ) := by
  cases v with
  | one c => exact Cv.ren_den ρ e c
  | agg cs => simp only [Sv.ren, Sv.den, densA_ren]
  | tup vs =>
    simp only [Sv.ren, Sv.den, List.map_map]
    congr 2
    refine List.map_congr_left fun p _ => ?_
    simp only [Function.comp, compDen, densA_ren, List.map_map]
    congr 2
    exact List.map_congr_left fun c _ => Cv.ren_den ρ e c
/-- The blocks of a state that a function reads: each is one of the other state's. -/
def SameCells (ρ : Nat → Nat) (cs cs1 : List Cv) : Prop := cs1.length = cs.length ∧ ∀ (e : Env) (j : Nat), (cs1[j]?).map (·.den e) = (cs[j]?).map (·.den (e.ren ρ))
def BkIs (σ : St) (ρ : Nat → Nat) : List (Nat × Blk) → Prop
  | [] => True
  | (id, b) :: l => (∃ t cs cs1 ro cp, b = .ar t true cs none ∧ alook σ.bk (ρ id) = some (.ar t ro cs1 cp) ∧ SameCells ρ cs cs1) ∧ BkIs σ ρ l
theorem BkIs.at_ {σ : St} {ρ : Nat → Nat} : ∀ {l : List (Nat × Blk)}, BkIs σ ρ l → ∀ {id b}, alook l id = some b → ∃ t cs cs1 ro cp, b = .ar t true cs none ∧ alook σ.bk (ρ id) = some (.ar t ro cs1 cp) ∧ SameCells ρ cs cs1
  | [], _, _, _, h => by cases h
  | (k, c) :: l, hl, id, b, h => by
    simp only [alook] at h
    cases hk : Nat.beq k id with
    | true =>
      rw [hk] at h
      obtain rfl := beq_iff'.1 hk
      obtain rfl : c = b := by simpa using h
      exact hl.1
    | false => rw [hk] at h; exact BkIs.at_ hl.2 h
def closedB (σ : St) : Bool := σ.bk.all fun p => p.2.inB (σ.bk.map (·.1)) []
theorem alook_mem {α : Type} : ∀ {l : List (Nat × α)} {n : Nat} {v : α}, alook l n = some v → (n, v) ∈ l
  | [], _, _, h => by cases h
  | (k, u) :: l, n, v, h => by
    simp only [alook] at h
    cases hk : Nat.beq k n with
    | true =>
      rw [hk] at h
      obtain rfl := beq_iff'.1 hk
      obtain rfl : u = v := by simpa using h
      exact List.mem_cons_self
    | false => rw [hk] at h; exact List.mem_cons_of_mem _ (alook_mem h)
theorem alook_isSome {α : Type} : ∀ {l : List (Nat × α)} {n : Nat}, n ∈ l.map (·.1) → (alook l n).isSome = true
  | [], _, h => by cases h
  | (k, u) :: l, n, h => by
    simp only [alook]
    cases hk : Nat.beq k n with
    | true => rfl
    | false =>
      rw [List.map_cons, List.mem_cons] at h
      rcases h with rfl | h
      · rw [Nat.beq_refl] at hk; cases hk
      · exact alook_isSome h
theorem ren_hp {σ0 σ : St} {ρ : Nat → Nat} (hb : BkIs σ ρ σ0.bk) (hc : closedB σ0 = true) {C : Ctx} {e : Env} {w : World} (hp : Hp C e (look σ) w) : Hp (ctx0 w) (e.ren ρ) (look σ0) w := by
  have blk : ∀ id b, look σ0 (.k id) = some (.bk b) → ∃ t cs cs1 ro cp, alook σ0.bk id = some (.ar t true cs none) ∧ b = .ar t true cs.length none ∧ alook σ.bk (ρ id) = some (.ar t ro cs1 cp) := by
    intro id b h
    simp only [look, Option.map_eq_some_iff] at h
    obtain ⟨b0, h1, h2⟩ := h
    obtain ⟨t, cs, cs1, ro, cp, rfl, h3, _⟩ := hb.at_ h1
    exact ⟨t, cs, cs1, ro, cp, h1, by simpa [Blk.info] using h2.symm, h3⟩
  have S : Sub (stoOf (σ0.bk.map (·.1)) []) (look σ0) := by
    refine ⟨fun id h => ?_, fun c h => ?_⟩
    · unfold kn at h ⊢
      simp only [stoOf] at h
      split at h
      · rename_i hm
        obtain ⟨b, hb'⟩ := Option.isSome_iff_exists.1 (alook_isSome (memb_iff.1 hm))
        simp only [look, hb']; rfl
      · cases h
    · unfold knn at h
      simp only [stoOf] at h
      split at h
      · rename_i hm; cases hm
      · cases h
  refine ⟨fun _ h => h, ?_, ?_, ?_, ?_, ?_, ?_, ?_, ⟨fun _ _ h => (by cases h), fun _ _ h => (by cases h)⟩, ⟨rfl, rfl, rfl, Nat.le_refl _, fun _ _ _ => rfl, hp.fr.glob0⟩⟩
  · intro id off v hv
    have hv' := hv
    simp only [look, Option.bind_eq_some_iff] at hv'
    obtain ⟨b0, h1, h2⟩ := hv'
    obtain ⟨t, cs, cs1, ro, cp, rfl, h3, hsame⟩ := hb.at_ h1
    obtain ⟨c, h4, h5⟩ := Option.map_eq_some_iff.1 h2
    obtain rfl : c = v := by simpa using h5
    have h4 : cs[off]? = some c := h4
    have hlt := (List.getElem?_eq_some_iff.1 h4).1
    have hin := List.all_eq_true.1 hc _ (alook_mem h1)
    refine ⟨?_, ⟨t, true, cs.length, none, by simp only [look, h1]; rfl, hlt⟩, ?_⟩
    · have : (Blk.ar t true cs none).inB (σ0.bk.map (·.1)) [] = true := hin
      simp only [Blk.inB, Bool.and_eq_true] at this
      exact (Cv.inB_sc (List.all_eq_true.1 this.1 c (List.mem_of_getElem? h4))).sub S
    · have hlt1 : off < cs1.length := by rw [hsame.1]; exact hlt
      have h5 := hsame.2 e off
      rw [h4, List.getElem?_eq_getElem hlt1] at h5
      have h5 : (cs1[off]).den e = c.den (e.ren ρ) := by simpa using h5
      have h6 : look σ (.c (ρ id) off) = some (.cv cs1[off]) := by
        simp only [look, h3, Option.bind_some, Blk.cell, List.getElem?_eq_getElem hlt1, Option.map_some]
      obtain ⟨_, _, h7⟩ := hp.cl _ _ _ h6
      rw [h5] at h7
      exact h7
  · intro id t n cp h
    obtain ⟨t', cs, cs1, ro, cp', _, h2, _⟩ := blk id _ h
    cases h2
  · intro id t ro n f cp h
    obtain ⟨t', cs, cs1, ro, cp', _, h2, _⟩ := blk id _ h
    cases h2
  · intro id b c es h hcp
    obtain ⟨t', cs, cs1, ro, cp', _, rfl, _⟩ := blk id _ h
    cases hcp
  · intro id id' b b' h1 _ h3
    obtain ⟨t', cs, cs1, ro, cp', _, rfl, _⟩ := blk id _ h1
    cases h3
  · intro id b h _
    obtain ⟨t', cs, cs1, ro, cp', _, rfl, h3⟩ := blk id _ h
    exact hp.lt (ρ id) (.ar t' ro cs1.length cp') (by simp only [look, h3]; rfl) rfl
  · intro id b h hr
    obtain ⟨t', cs, cs1, ro, cp', _, rfl, _⟩ := blk id _ h
    cases hr
/-- From one state to every other that has its blocks. -/
theorem FunOk.ren {f : FuncId} {args0 args : List Sv} {σ0 σ0' σ : St} {v : Sv} (h : FunOk P f args0 σ0 v σ0') (ρ : Nat → Nat) (hb : BkIs σ ρ σ0.bk) (hc : closedB σ0 = true) (ha : ∀ e, args.map (·.den e) = args0.map (·.den (e.ren ρ))) (hs : ∀ x ∈ args0, x.sc (look σ0)) (hv : v.freeB = true) : FunOk P f args σ v σ := by
  refine ⟨fun C e w hp _ => ?_, KeepL.refl _⟩
  have h1 := h.run (ctx0 w) (e.ren ρ) w (ren_hp hb hc hp) hs
  rw [ha e]
  refine h1.mono fun en w' => ?_
  rintro ⟨e', -, hp', rfl, -⟩
  have hB : Below w.heap.size w w' := ⟨hp'.fr.os, hp'.fr.tape, hp'.fr.output, hp'.fr.size, fun k hk => hp'.fr.block k hk (by show ¬ w.heap.size ≤ k; omega)⟩
  exact ⟨e, Agree.refl _ _, hp.keep hB, by rw [Sv.free_den hv e' e], Sv.free_sc hv _⟩

/-! Cells of numbers and truth values: what they read as. -/
def isL : List Lf → List Cv → Bool
  | [], [] => true
  | .b :: ls, .b _ _ :: cs => isL ls cs
  | .i k :: ls, .i k' _ _ :: cs => decide (k = k') && isL ls cs
  | _, _ => false
def bOf (cs : List Cv) (j : Nat) : Bool := match cs[j]? with
  | some (.b v _) => v
  | _ => false
def nOf (cs : List Cv) (j : Nat) : Int := match cs[j]? with
  | some (.i _ n _) => n
  | _ => 0
theorem isL_den {c0 : List Cv} : ∀ {ls : List Lf} {cs : List Cv} {j : Nat}, isL ls cs = true → (∀ i, cs[i]? = c0[j + i]?) → ∀ (e e' : Env) (i : Nat), (cs[i]?).map (·.den e) = ((symL (bOf c0) (nOf c0) j ls)[i]?).map (·.den e')
  | [], [], j, _, _ => fun e e' i => by simp [symL]
  | [], _ :: _, _, h, _ => by cases h
  | .b :: _, [], _, h, _ => by cases h
  | .i _ :: _, [], _, h, _ => by cases h
  | l :: ls, c :: cs, j, h, hi => by
    intro e e' i
    have h0 : c0[j]? = some c := by have := hi 0; simpa using this.symm
    have hn : ∀ i, cs[i]? = c0[j + 1 + i]? := fun i => by
      have := hi (i + 1)
      rw [show j + (i + 1) = j + 1 + i by omega] at this
      exact this
    cases i with
    | zero =>
      simp only [symL, List.getElem?_cons_zero, Option.map_some]
      congr 1
      cases l with
      | b => cases c with
        | b v fl => simp [Lf.cv, Cv.den, bOf, h0]
        | _ => cases h
      | i k => cases c with
        | i k' v fl =>
          simp only [isL, Bool.and_eq_true, decide_eq_true_eq] at h
          obtain ⟨rfl, _⟩ := h
          simp [Lf.cv, Cv.den, nOf, h0]
        | _ => cases h
    | succ i =>
      simp only [symL, List.getElem?_cons_succ]
      have h' : isL ls cs = true := by
        cases l with
        | b => cases c with
          | b v fl => exact h
          | _ => cases h
        | i k => cases c with
          | i k' v fl => exact (Bool.and_eq_true_iff.1 h).2
          | _ => cases h
      exact isL_den h' hn e e' i
theorem isL_len : ∀ {ls : List Lf} {cs : List Cv}, isL ls cs = true → cs.length = ls.length
  | [], [], _ => rfl
  | [], _ :: _, h => by cases h
  | .b :: _, [], h => by cases h
  | .i _ :: _, [], h => by cases h
  | .b :: ls, c :: cs, h => by
    cases c with
    | b v fl => simp [isL_len (show isL ls cs = true from h)]
    | _ => cases h
  | .i k :: ls, c :: cs, h => by
    cases c with
    | i k' v fl => simp [isL_len (Bool.and_eq_true_iff.1 h).2]
    | _ => cases h
theorem symL_len (bs : Nat → Bool) (ns : Nat → Int) : ∀ (ls : List Lf) (j : Nat), (symL bs ns j ls).length = ls.length
  | [], _ => rfl
  | _ :: ls, j => by simp [symL, symL_len bs ns ls]
theorem same_isL {ρ : Nat → Nat} {ls : List Lf} {cs : List Cv} (h : isL ls cs = true) : SameCells ρ (symL (bOf cs) (nOf cs) 0 ls) cs :=
  ⟨by rw [isL_len h, symL_len], fun e j => isL_den h (fun i => by rw [Nat.zero_add]) e _ j⟩
theorem same_cons {ρ : Nat → Nat} {c c1 : Cv} {cs cs1 : List Cv} (h0 : ∀ e, c1.den e = c.den (e.ren ρ)) (h : SameCells ρ cs cs1) : SameCells ρ (c :: cs) (c1 :: cs1) := by
  refine ⟨by simp [h.1], fun e j => ?_⟩
  cases j with
  | zero => simp [h0]
  | succ j => simpa using h.2 e j

/-- Rules that look at what their arguments point to. -/
abbrev RulesM := List (Nat × (List Sv → St → Option Sv))
def spM (l : RulesM) (f : FuncId) : Option (List Sv → St → Tree FLeaf) := match alook l f with
  | some g => some fun args σ => match g args σ with
    | some v => .leaf (v, σ)
    | none => .fail
  | none => none
def RuleMOk (P : Program) (f : FuncId) (g : List Sv → St → Option Sv) : Prop := ∀ args σ v, g args σ = some v → FunOk P f args σ v σ
def RulesMOk (P : Program) : RulesM → Prop
  | [] => True
  | (f, g) :: l => RuleMOk P f g ∧ RulesMOk P l
theorem RulesMOk.at_ : ∀ {l : RulesM}, RulesMOk P l → ∀ {f g}, alook l f = some g → RuleMOk P f g
  | [], _, _, _, h => by cases h
  | (k, g) :: l, hl, f, g', h => by
    simp only [alook] at h
    cases c : Nat.beq k f with
    | true =>
      rw [c] at h
      obtain rfl := beq_iff'.1 c
      obtain rfl : g = g' := by simpa using h
      exact hl.1
    | false => rw [c] at h; exact RulesMOk.at_ hl.2 h
theorem spM_ok {l : RulesM} (h : RulesMOk P l) : SpOk P (spM l) := by
  intro f k hk args σ y hy
  unfold spM at hk
  split at hk
  · rename_i g hg
    obtain rfl := Option.some.inj hk
    simp only [] at hy
    split at hy
    · rename_i v hv
      obtain rfl := (show _ = y from hy)
      exact h.at_ hg args σ v hv
    · exact hy.elim
  · cases hk
end
end Sx
end Go.Proofs.Ytladkknbkgomfaa

/-
  What a function hands back, told in plain numbers and truth values.
-/
set_option linter.unusedSimpArgs false
set_option linter.unusedVariables false
namespace Go.Proofs.Ytladkknbkgomfaa
namespace Sx
open Go.RowKit

inductive Lv where
  | b (v : Bool)
  | i (k : IntKind) (n : Int)
inductive Vv where
  | one (x : Lv)
  | agg (xs : List Lv)
  | tup (xs : List (Bool × List Lv))
def Lv.cv : Lv → Cv
  | .b v => .b v false
  | .i k n => .i k n false
def Lv.val : Lv → Value
  | .b v => .bool v
  | .i k n => .int k n
def Cv.lv : Cv → Option Lv
  | .b v _ => some (.b v)
  | .i k n _ => some (.i k n)
  | _ => none
def lvs : List Cv → Option (List Lv)
  | [] => some []
  | c :: cs => match c.lv, lvs cs with
    | some x, some xs => some (x :: xs)
    | _, _ => none
def lvt : List (Bool × List Cv) → Option (List (Bool × List Lv))
  | [] => some []
  | p :: ps => match lvs p.2, lvt ps with
    | some x, some xs => some ((p.1, x) :: xs)
    | _, _ => none
def Sv.vv : Sv → Option Vv
  | .one c => c.lv.map .one
  | .agg cs => (lvs cs).map .agg
  | .tup vs => (lvt vs).map .tup
def Vv.sv : Vv → Sv
  | .one x => .one x.cv
  | .agg xs => .agg (xs.map Lv.cv)
  | .tup xs => .tup (xs.map fun p => (p.1, p.2.map Lv.cv))
theorem Cv.lv_den {c : Cv} {x : Lv} (h : c.lv = some x) (e e' : Env) : c.den e = x.cv.den e' := by
  cases c <;> simp only [Cv.lv, Option.some.injEq, reduceCtorEq] at h <;> subst h <;> rfl
theorem lvs_den : ∀ {cs : List Cv} {xs : List Lv}, lvs cs = some xs → ∀ e e', cs.map (·.den e) = (xs.map Lv.cv).map (·.den e')
  | [], xs, h, e, e' => by obtain rfl := Option.some.inj h; rfl
  | c :: cs, xs, h, e, e' => by
    simp only [lvs] at h
    split at h
    · rename_i x xs' h1 h2
      obtain rfl := Option.some.inj h
      simp only [List.map_cons]
      rw [Cv.lv_den h1 e e', lvs_den h2 e e']
    · cases h
theorem lvt_den : ∀ {ps : List (Bool × List Cv)} {xs : List (Bool × List Lv)}, lvt ps = some xs → ∀ e e', ps.map (compDen e) = (xs.map fun p => (p.1, p.2.map Lv.cv)).map (compDen e')
  | [], xs, h, e, e' => by obtain rfl := Option.some.inj h; rfl
  | p :: ps, xs, h, e, e' => by
    simp only [lvt] at h
    split at h
    · rename_i x xs' h1 h2
      obtain rfl := Option.some.inj h
      have h3 := lvs_den h1 e e'
      have h4 := lvt_den h2 e e'
      simp only [List.map_cons]
      rw [h4]
      congr 1
      simp only [compDen, densA]
      rw [h3]
    · cases h
theorem Sv.vv_den {v : Sv} {x : Vv} (h : v.vv = some x) (e e' : Env) : v.den e = x.sv.den e' := by
  cases v with
  | one c =>
    obtain ⟨y, hy, rfl⟩ := Option.map_eq_some_iff.1 h
    exact Cv.lv_den hy e e'
  | agg cs =>
    obtain ⟨y, hy, rfl⟩ := Option.map_eq_some_iff.1 h
    show Value.agg (cs.map _).toArray = Value.agg ((y.map Lv.cv).map _).toArray
    rw [lvs_den hy e e']
  | tup vs =>
    obtain ⟨y, hy, rfl⟩ := Option.map_eq_some_iff.1 h
    show Value.tuple (vs.map _).toArray = Value.tuple ((y.map _).map _).toArray
    rw [lvt_den hy e e']
theorem Lv.cv_free (x : Lv) : x.cv.freeB = true := by cases x <;> rfl
theorem lv_free (xs : List Lv) : (xs.map Lv.cv).all Cv.freeB = true := by
  rw [List.all_eq_true]
  intro c hc
  obtain ⟨x, _, rfl⟩ := List.mem_map.1 hc
  exact Lv.cv_free x
theorem Vv.sv_free (x : Vv) : x.sv.freeB = true := by
  cases x with
  | one x => exact Lv.cv_free x
  | agg xs => exact lv_free xs
  | tup xs =>
    show List.all _ _ = true
    rw [List.all_eq_true]
    intro p hp
    obtain ⟨q, _, rfl⟩ := List.mem_map.1 hp
    exact lv_free q.2

section
variable {P : Program} {tb : Tb}
/-- The one way that is left, what it demands, and what it hands back. -/
def res (T : Tree FLeaf) : Option (List Bool × Vv) := match peelF T with
  | some (l, (v, _)) => match v.vv with
    | some x => some (l, x)
    | none => none
  | none => none
theorem res_at {T : Tree FLeaf} {l : List Bool} {x : Vv} (h : res T = some (l, x)) (hl : ∀ b ∈ l, b = true) : ∃ y, T.At y ∧ y.1.vv = some x := by
  unfold res at h
  split at h
  · rename_i l' v σ hp
    split at h
    · rename_i x' hx
      obtain ⟨rfl, rfl⟩ := Prod.mk.inj (Option.some.inj h)
      exact ⟨(v, σ), peelF_at hp hl, hx⟩
    · cases h
  · cases h
theorem FunOk.val {f : FuncId} {args : List Sv} {σ σ' : St} {v u : Sv} (h : FunOk P f args σ v σ') (hd : ∀ e, v.den e = u.den e) (hu : u.freeB = true) : FunOk P f args σ u σ' := by
  refine ⟨fun C e w hp hs => ?_, h.keep⟩
  refine (h.run C e w hp hs).mono fun en w' => ?_
  rintro ⟨e', h1, h2, rfl, -⟩
  exact ⟨e', h1, h2, by rw [hd e'], Sv.free_sc hu _⟩
theorem res_ok {wf : List FuncId} {sp : FuncId → Option (List Sv → St → Tree FLeaf)} {fuel d f : Nat} (hT : TbOk P tb) (hm : P.follows .mixedOrders = true) (hs : SpOk P sp) {args : List Sv} {σ : St} {l : List Bool} {x : Vv}
    (h : res (evFn tb wf sp fuel d f args σ) = some (l, x)) (hl : ∀ b ∈ l, b = true) : ∃ σ', FunOk P f args σ x.sv σ' := by
  obtain ⟨y, h1, h2⟩ := res_at h hl
  exact ⟨y.2, (evFn_at hT hm hs h1).val (fun e => Sv.vv_den h2 e e) x.sv_free⟩
/-- A function of plain values: what it hands back, in any world. -/
theorem res_any {wf : List FuncId} {sp : FuncId → Option (List Sv → St → Tree FLeaf)} {fuel d f : Nat} (hT : TbOk P tb) (hm : P.follows .mixedOrders = true) (hs : SpOk P sp) {args : List Sv} (hargs : ∀ x ∈ args, x.freeB = true) {l : List Bool} {x : Vv}
    (h : res (evFn tb wf sp fuel d f args st0) = some (l, x)) (hl : ∀ b ∈ l, b = true) (w : World) (hG : Glob0 w := by exact glob0 w) : Calls P f (args.map (·.den env0)).toArray w fun en w' => en = .returned (x.sv.den env0) ∧ Below w.heap.size w w' := by
  obtain ⟨σ', h1⟩ := res_ok hT hm hs h hl
  exact h1.any hargs x.sv_free w hG

/-! Arguments that are numbers and truth values: the names that stand for them. -/
def canon (ls : List Lf) (cs : List Cv) : List Cv := symL (bOf cs) (nOf cs) 0 ls
theorem canon_den {ls : List Lf} {cs : List Cv} (h : isL ls cs = true) (e e' : Env) : (Sv.agg cs).den e = (Sv.agg (canon ls cs)).den e' := by
  show Value.agg (densA e cs) = Value.agg (densA e' (canon ls cs))
  congr 1
  unfold densA canon
  congr 1
  apply List.ext_getElem?
  intro i
  rw [List.getElem?_map, List.getElem?_map]
  exact isL_den h (fun i => by rw [Nat.zero_add]) e e' i
end
end Sx
end Go.Proofs.Ytladkknbkgomfaa

/-
  Plants: which truths are possible, both sides (by the evaluator).
-/
set_option linter.unusedSimpArgs false
set_option linter.unusedVariables false
namespace Go.Proofs.Ytladkknbkgomfaa
open Sx Go.RowKit
set_option maxRecDepth 100000
def lsT : List Lf := List.replicate 25 (.i .i64) ++ [.b, .b, .i .i64, .i .i64, .b, .b]
/-- A truth's cells. -/
def truC (t : Tru) : List Value := [.int .i64 (t.n 0), .int .i64 (t.n 1), .int .i64 (t.n 2), .int .i64 (t.n 3), .int .i64 (t.n 4), .int .i64 (t.n 5), .int .i64 (t.n 6), .int .i64 (t.n 7), .int .i64 (t.n 8), .int .i64 (t.n 9), .int .i64 (t.n 10), .int .i64 (t.n 11), .int .i64 (t.n 12), .int .i64 (t.n 13), .int .i64 (t.n 14), .int .i64 (t.n 15), .int .i64 (t.n 16), .int .i64 (t.n 17), .int .i64 (t.n 18), .int .i64 (t.n 19), .int .i64 (t.n 20), .int .i64 (t.n 21), .int .i64 (t.n 22), .int .i64 (t.n 23), .int .i64 (t.n 24), .bool t.cr, .bool t.wa, .int .i64 t.link, .int .i64 t.pack, .bool t.want, .bool t.rs]
def truB (t : Tru) : Nat → Bool := fun j => if j = 25 then t.cr else if j = 26 then t.wa else if j = 29 then t.want else t.rs
def truN (t : Tru) : Nat → Int := fun j => if j = 27 then t.link else if j = 28 then t.pack else t.n j
theorem truC_sym (t : Tru) : truC t = (symL (truB t) (truN t) 0 lsT).map (·.den env0) := rfl
def isQe (x : Int) : Bool := bif decide (x ≥ -1099511627776) then decide (x ≤ 1099511627776) else false
def badE (x : Int) : Bool := bif decide (x < -549755813888) then true else decide (x > 549755813888)
theorem isQe_eq (x : Int) : isQe x = isQ x := by
  unfold isQe isQ most
  by_cases h : -1099511627776 ≤ x <;> by_cases h2 : x ≤ 1099511627776 <;> simp [h, h2]
theorem badE_eq (x : Int) : badE x = !isE x := by
  unfold badE isE most
  by_cases h : x < -549755813888
  · have e : decide (-(1099511627776 / 2) ≤ x ∧ x ≤ 1099511627776 / 2) = false := decide_eq_false (by omega)
    rw [decide_eq_true h, e]; rfl
  · by_cases h2 : x > 549755813888
    · have e : decide (-(1099511627776 / 2) ≤ x ∧ x ≤ 1099511627776 / 2) = false := decide_eq_false (by omega)
      rw [decide_eq_false h, decide_eq_true h2, e]; rfl
    · have e : decide (-(1099511627776 / 2) ≤ x ∧ x ≤ 1099511627776 / 2) = true := decide_eq_true (by omega)
      rw [decide_eq_false h, decide_eq_false h2, e]; rfl
def poQ (x : Nat → Int) (q : Nat) (r : Bool) : Bool := bif (bif !isQe (x q) then true else !isQe (x (20 + q))) then false else bif badE (x (5 + q)) then false else bif badE (x (10 + q)) then false else bif badE (x (15 + q)) then false else r
def poE (x : Nat → Int) : Bool := poQ x 0 (poQ x 1 (poQ x 2 (poQ x 3 (poQ x 4 (bif isQe (x 27) then isQe (x 28) else false)))))
theorem po_ev (b : Nat → Bool) (x : Nat → Int) : res (evFn tbl wr5 (fun _ => none) 300 12 26 [.agg (symL b x 0 lsT)] st0) = some ([], .one (.b (poE x))) := by kernel_rfl
theorem rpo_ev (b : Nat → Bool) (x : Nat → Int) : res (evFn tbl wr5 (fun _ => none) 300 12 27 [.agg (symL b x 0 lsT)] st0) = some ([], .one (.b (poE x))) := by kernel_rfl
theorem poQ_eq (x : Nat → Int) (q : Nat) (r : Bool) : poQ x q r = (isQ (x q) && isQ (x (20 + q)) && isE (x (5 + q)) && isE (x (10 + q)) && isE (x (15 + q)) && r) := by
  unfold poQ
  simp only [isQe_eq, badE_eq]
  cases isQ (x q) <;> cases isQ (x (20 + q)) <;> cases isE (x (5 + q)) <;> cases isE (x (10 + q)) <;> cases isE (x (15 + q)) <;> rfl
theorem poE_eq (t : Tru) : poE (truN t) = okTru t := by
  unfold poE okTru
  simp only [poQ_eq, isQe_eq]
  have e : (bif isQ (truN t 27) then isQ (truN t 28) else false) = (isQ t.link && isQ t.pack) := by
    show (bif isQ t.link then isQ t.pack else false) = _
    cases isQ t.link <;> rfl
  rw [e]
  have k : ∀ q, q < 5 → (isQ (truN t q) && isQ (truN t (20 + q)) && isE (truN t (5 + q)) && isE (truN t (10 + q)) && isE (truN t (15 + q))) = okQ t q := fun q hq => by
    have : q = 0 ∨ q = 1 ∨ q = 2 ∨ q = 3 ∨ q = 4 := by omega
    rcases this with rfl | rfl | rfl | rfl | rfl <;> rfl
  rw [k 0 (by decide), k 1 (by decide), k 2 (by decide), k 3 (by decide), k 4 (by decide)]
  simp only [Bool.and_assoc]
theorem possible_any (t : Tru) (w : World) : Calls Try.prog 26 #[.agg (truC t).toArray] w fun e w' => e = .returned (.bool (okTru t)) ∧ Below w.heap.size w w' := by
  have h := res_any tbl_ok tbl_any spNone (args := [.agg (symL (truB t) (truN t) 0 lsT)]) (fun x hx => by
    simp only [List.mem_cons, List.not_mem_nil, or_false] at hx
    subst hx
    exact symL_free _ _ _ _) (po_ev (truB t) (truN t)) (fun b hb => by cases hb) w
  rw [poE_eq] at h
  rw [truC_sym]
  exact h
theorem RPossible_any (t : Tru) (w : World) : Calls Try.prog 27 #[.agg (truC t).toArray] w fun e w' => e = .returned (.bool (okTru t)) ∧ Below w.heap.size w w' := by
  have h := res_any tbl_ok tbl_any spNone (args := [.agg (symL (truB t) (truN t) 0 lsT)]) (fun x hx => by
    simp only [List.mem_cons, List.not_mem_nil, or_false] at hx
    subst hx
    exact symL_free _ _ _ _) (rpo_ev (truB t) (truN t)) (fun b hb => by cases hb) w
  rw [poE_eq] at h
  rw [truC_sym]
  exact h
end Go.Proofs.Ytladkknbkgomfaa

/-
  Plants: what is shown, as a function of the cell; stores into a block.
-/
set_option linter.unusedSimpArgs false
set_option linter.unusedVariables false
namespace Go.Proofs.Ytladkknbkgomfaa
open Go.RowKit Mr
/-- The empty signals. -/
def zS (k : Nat) : Value := if k < 18 then (if k % 6 = 0 then .bool false else .int .i64 0) else if k < 27 then .bool false else if k < 29 then .int .i64 0 else .bool false
theorem zS_eq : #[.bool false, .int .i64 0, .int .i64 0, .int .i64 0, .int .i64 0, .int .i64 0, .bool false, .int .i64 0, .int .i64 0, .int .i64 0, .int .i64 0, .int .i64 0, .bool false, .int .i64 0, .int .i64 0, .int .i64 0, .int .i64 0, .int .i64 0, .bool false, .bool false, .bool false, .bool false, .bool false, .bool false, .bool false, .bool false, .bool false, .int .i64 0, .int .i64 0, .bool false, .bool false] = fA 31 zS := rfl
theorem sgSize : (Try.prog.info? 52).map (·.size) = some 31 := by kernel_rfl
theorem trSize : (Try.prog.info? 38).map (·.size) = some 31 := by kernel_rfl
/-- What channel c shows of quantity m. -/
def valC (l : List Brk) (t : Tru) (c m : Nat) : Int := if (hasB 1 (c : Int) l).1 = true then t.n (20 + m) else t.n m + t.n (5 + c * 5 + m)
def chV (l : List Brk) (t : Tru) (c m : Nat) : Value := if (hasB 2 (c : Int) l).1 = true then zS (c * 6 + m) else if m = 0 then .bool true else .int .i64 (valC l t c (m - 1))
/-- The signals, when the first i channels are done; bk: what the others have back. -/
def rF (l : List Brk) (t : Tru) (sh : T3) (bk : Nat → Bool) (i k : Nat) : Value :=
  if k < 18 then (if k / 6 < i then chV l t (k / 6) (k % 6) else zS k)
  else if k < 21 then .bool (if k - 18 < i then wireB l 5 (k - 18) t.cr else false)
  else if k < 24 then .bool (if k - 21 < i then wireB l 5 (k - 21) t.wa else false)
  else if k < 27 then .bool (if k - 24 < i then wireB l 6 (k - 24) (at3 sh (k - 24)) else bk (k - 24))
  else if k = 27 then .int .i64 t.link else if k = 28 then .int .i64 t.pack else if k = 29 then .bool t.want else .bool t.rs
def sgF (l : List Brk) (t : Tru) (sh : T3) : Nat → Value := rF l t sh (fun _ => false) 3
theorem rF_all {l : List Brk} {t : Tru} {sh : T3} {bk : Nat → Bool} {k : Nat} : rF l t sh bk 3 k = sgF l t sh k := by
  unfold sgF rF
  by_cases c1 : k < 18
  · rw [if_pos c1, if_pos c1]
  rw [if_neg c1, if_neg c1]
  by_cases c2 : k < 21
  · rw [if_pos c2, if_pos c2]
  rw [if_neg c2, if_neg c2]
  by_cases c3 : k < 24
  · rw [if_pos c3, if_pos c3]
  rw [if_neg c3, if_neg c3]
  by_cases c4 : k < 27
  · rw [if_pos c4, if_pos c4, if_pos (by omega), if_pos (by omega)]
  rw [if_neg c4, if_neg c4]
/-- The wires of channel i. -/
def w1F (l : List Brk) (t : Tru) (i : Nat) (f : Nat → Value) : Nat → Value := updF (updF f (18 + i) (.bool (wireB l 5 i t.cr))) (21 + i) (.bool (wireB l 5 i t.wa))
def w2F (l : List Brk) (t : Tru) (sh : T3) (i : Nat) (f : Nat → Value) : Nat → Value := updF (w1F l t i f) (24 + i) (.bool (wireB l 6 i (at3 sh i)))
/-- The numbers of channel i, when the first q of them are done; what the others are. -/
def qF (l : List Brk) (t : Tru) (i : Nat) (f : Nat → Value) (q k : Nat) : Value := if i * 6 + 1 ≤ k ∧ k < i * 6 + 1 + q then .int .i64 (valC l t i (k - (i * 6 + 1))) else f k
theorem rF_mute {l : List Brk} {t : Tru} {sh : T3} {bk : Nat → Bool} {i k : Nat} (hi : i < 3) (hm : (hasB 2 (i : Int) l).1 = true) : w2F l t sh i (rF l t sh bk i) k = rF l t sh bk (i + 1) k := by
  unfold w2F w1F
  by_cases c1 : k = 24 + i
  · subst c1
    rw [updF_at]; unfold rF
    rw [if_neg (by omega), if_neg (by omega), if_neg (by omega), if_pos (by omega), if_pos (by omega), Nat.add_sub_cancel_left]
  rw [updF_ne c1]
  by_cases c2 : k = 21 + i
  · subst c2
    rw [updF_at]; unfold rF
    rw [if_neg (by omega), if_neg (by omega), if_pos (by omega), if_pos (by omega), Nat.add_sub_cancel_left]
  rw [updF_ne c2]
  by_cases c3 : k = 18 + i
  · subst c3
    rw [updF_at]; unfold rF
    rw [if_neg (by omega), if_pos (by omega), if_pos (by omega), Nat.add_sub_cancel_left]
  rw [updF_ne c3]
  unfold rF
  by_cases d1 : k < 18
  · rw [if_pos d1, if_pos d1]
    by_cases e : k / 6 < i
    · rw [if_pos e, if_pos (by omega)]
    · rw [if_neg e]
      by_cases e2 : k / 6 < i + 1
      · rw [if_pos e2]
        have e3 : k / 6 = i := by omega
        rw [e3]
        unfold chV
        rw [if_pos hm]
        congr 1
        omega
      · rw [if_neg e2]
  rw [if_neg d1, if_neg d1]
  by_cases d2 : k < 21
  · rw [if_pos d2, if_pos d2]
    by_cases e : k - 18 < i
    · rw [if_pos e, if_pos (by omega)]
    · rw [if_neg e, if_neg (by omega)]
  rw [if_neg d2, if_neg d2]
  by_cases d3 : k < 24
  · rw [if_pos d3, if_pos d3]
    by_cases e : k - 21 < i
    · rw [if_pos e, if_pos (by omega)]
    · rw [if_neg e, if_neg (by omega)]
  rw [if_neg d3, if_neg d3]
  by_cases d4 : k < 27
  · rw [if_pos d4, if_pos d4]
    by_cases e : k - 24 < i
    · rw [if_pos e, if_pos (by omega)]
    · rw [if_neg e, if_neg (by omega)]
  rw [if_neg d4, if_neg d4]
theorem rF_has {l : List Brk} {t : Tru} {sh : T3} {bk : Nat → Bool} {i k : Nat} {f : Nat → Value} (hi : i < 3) (hm : (hasB 2 (i : Int) l).1 = false) (hf : ∀ k, ¬ (i * 6 ≤ k ∧ k < i * 6 + 6) → f k = w2F l t sh i (rF l t sh bk i) k) (h0 : f (i * 6) = .bool true) : qF l t i f 5 k = rF l t sh bk (i + 1) k := by
  unfold qF
  by_cases c : i * 6 + 1 ≤ k ∧ k < i * 6 + 1 + 5
  · rw [if_pos c]
    unfold rF
    rw [if_pos (by omega), if_pos (by omega), show k / 6 = i by omega]
    unfold chV
    rw [if_neg (by rw [hm]; decide), if_neg (by omega), show k % 6 - 1 = k - (i * 6 + 1) by omega]
  · rw [if_neg c]
    by_cases d : k = i * 6
    · subst d
      rw [h0]
      unfold rF
      rw [if_pos (by omega), if_pos (by omega), show i * 6 / 6 = i by omega, show i * 6 % 6 = 0 by omega]
      unfold chV
      rw [if_neg (by rw [hm]; decide), if_pos rfl]
    · rw [hf k (by omega)]
      by_cases hk : k < 18
      · unfold w2F w1F
        rw [updF_ne (by omega), updF_ne (by omega), updF_ne (by omega)]
        unfold rF
        rw [if_pos hk, if_pos hk]
        by_cases e : k / 6 < i
        · rw [if_pos e, if_pos (by omega)]
        · rw [if_neg e, if_neg (by omega)]
      · have hm2 : ∀ m : Bool, (hasB 2 (i : Int) l).1 = m → w2F l t sh i (rF l t sh bk i) k = rF l t sh bk (i + 1) k := by
          intro m _
          unfold w2F w1F
          by_cases c1 : k = 24 + i
          · subst c1
            rw [updF_at]; unfold rF
            rw [if_neg (by omega), if_neg (by omega), if_neg (by omega), if_pos (by omega), if_pos (by omega), Nat.add_sub_cancel_left]
          rw [updF_ne c1]
          by_cases c2 : k = 21 + i
          · subst c2
            rw [updF_at]; unfold rF
            rw [if_neg (by omega), if_neg (by omega), if_pos (by omega), if_pos (by omega), Nat.add_sub_cancel_left]
          rw [updF_ne c2]
          by_cases c3 : k = 18 + i
          · subst c3
            rw [updF_at]; unfold rF
            rw [if_neg (by omega), if_pos (by omega), if_pos (by omega), Nat.add_sub_cancel_left]
          rw [updF_ne c3]
          unfold rF
          rw [if_neg hk, if_neg hk]
          by_cases d2 : k < 21
          · rw [if_pos d2, if_pos d2]
            by_cases e : k - 18 < i
            · rw [if_pos e, if_pos (by omega)]
            · rw [if_neg e, if_neg (by omega)]
          rw [if_neg d2, if_neg d2]
          by_cases d3 : k < 24
          · rw [if_pos d3, if_pos d3]
            by_cases e : k - 21 < i
            · rw [if_pos e, if_pos (by omega)]
            · rw [if_neg e, if_neg (by omega)]
          rw [if_neg d3, if_neg d3]
          by_cases d4 : k < 27
          · rw [if_pos d4, if_pos d4]
            by_cases e : k - 24 < i
            · rw [if_pos e, if_pos (by omega)]
            · rw [if_neg e, if_neg (by omega)]
          rw [if_neg d4, if_neg d4]
        exact hm2 _ rfl
theorem qF_next {l : List Brk} {t : Tru} {i q k : Nat} {f : Nat → Value} : updF (qF l t i f q) (i * 6 + 1 + q) (.int .i64 (valC l t i q)) k = qF l t i f (q + 1) k := by
  by_cases c : k = i * 6 + 1 + q
  · subst c
    rw [updF_at]; unfold qF
    rw [if_pos (by omega), Nat.add_sub_cancel_left]
  · rw [updF_ne c]; unfold qF
    by_cases d : i * 6 + 1 ≤ k ∧ k < i * 6 + 1 + q
    · rw [if_pos d, if_pos (by omega)]
    · rw [if_neg d, if_neg (by omega)]
theorem okTru_bd {t : Tru} (h : okTru t = true) {q i : Nat} (hq : q < 5) (hi : i < 3) : -3298534883328 ≤ t.n q + t.n (5 + i * 5 + q) ∧ t.n q + t.n (5 + i * 5 + q) ≤ 3298534883328 := by
  have hk : okQ t q = true := by
    unfold okTru at h
    simp only [Bool.and_eq_true] at h
    have : q = 0 ∨ q = 1 ∨ q = 2 ∨ q = 3 ∨ q = 4 := by omega
    rcases this with rfl | rfl | rfl | rfl | rfl
    · exact h.1.1.1.1.1.1
    · exact h.1.1.1.1.1.2
    · exact h.1.1.1.1.2
    · exact h.1.1.1.2
    · exact h.1.1.2
  unfold okQ isQ isE most at hk
  simp only [Bool.and_eq_true, decide_eq_true_eq] at hk
  have : i = 0 ∨ i = 1 ∨ i = 2 := by omega
  rcases this with rfl | rfl | rfl
  · have e : 5 + 0 * 5 + q = 5 + q := by omega
    rw [e]; omega
  · have e : 5 + 1 * 5 + q = 10 + q := by omega
    rw [e]; omega
  · have e : 5 + 2 * 5 + q = 15 + q := by omega
    rw [e]; omega
theorem truC_n (t : Tru) {k : Nat} (h : k < 25) : (truC t)[k]? = some (.int .i64 (t.n k)) := by
  have : k = 0 ∨ k = 1 ∨ k = 2 ∨ k = 3 ∨ k = 4 ∨ k = 5 ∨ k = 6 ∨ k = 7 ∨ k = 8 ∨ k = 9 ∨ k = 10 ∨ k = 11 ∨ k = 12 ∨ k = 13 ∨ k = 14 ∨ k = 15 ∨ k = 16 ∨ k = 17 ∨ k = 18 ∨ k = 19 ∨ k = 20 ∨ k = 21 ∨ k = 22 ∨ k = 23 ∨ k = 24 := by omega
  rcases this with rfl | rfl | rfl | rfl | rfl | rfl | rfl | rfl | rfl | rfl | rfl | rfl | rfl | rfl | rfl | rfl | rfl | rfl | rfl | rfl | rfl | rfl | rfl | rfl | rfl <;> rfl
theorem fA_back2 {n : Nat} {f : Nat → Value} : (fA n f).toList.toArray = fA n f := by simp
theorem sgLoad {W : World} {R : Nat} {f : Nat → Value} (h : W.heap[R]? = some (fO 31 f 52)) : (loadVar 52 ⟨R, 0, none⟩).run Try.prog W = .ok (.agg (fA 31 f)) W := by
  have h2 := run_loadVar_mid (P := Try.prog) W R 0 52 (fA 31 f).toList _ (fb_range h) Try.underlying52 rfl (by rw [fA_list]; simpa using sgSize)
  rw [fA_back2] at h2
  exact h2
theorem res_cell {P : Program} {fn : Func} {tmps : Array Value} {W : World} {a e : Nat} {t : TypeId} {p : Addr} {v u : Value} (hr : fn.results = #[.cell a t, .tmp e]) (ha : tmps.getD a undef = .pointer (some p)) (hl : (loadVar t p).run P W = .ok v W) (he : tmps.getD e undef = u) : (results fn tmps).run P W = .ok (.tuple #[v, u]) W := by
  unfold results
  rw [hr]
  simp only [List.mapM_toArray, List.mapM_cons, List.mapM_nil, ha, he, asAddr, Sem.run_bind, Sem.run_pure, Result.andThen_ok, hl, map_eq_pure_bind, bind_assoc, pure_bind]
  rfl
theorem wB_no {l : List Brk} {k : Int} {i : Nat} {b : Bool} (h : (hasB k (i : Int) l).1 = false) : wireB l k i b = b := by unfold wireB; rw [h]; rfl
theorem wB_yes {l : List Brk} {k : Int} {i : Nat} {b : Bool} (h : (hasB k (i : Int) l).1 = true) : wireB l k i b = (hasB k (i : Int) l).2 := by unfold wireB; rw [h]; rfl
theorem w1_no {l : List Brk} {t : Tru} {i : Nat} {f : Nat → Value} (h : (hasB 5 (i : Int) l).1 = false) : updF (updF f (18 + i) (.bool t.cr)) (21 + i) (.bool t.wa) = w1F l t i f := by
  unfold w1F; rw [wB_no h, wB_no h]
theorem w1_yes {l : List Brk} {t : Tru} {i k : Nat} {f : Nat → Value} (h : (hasB 5 (i : Int) l).1 = true) (hi : i < 3) : updF (updF (updF (updF f (18 + i) (.bool t.cr)) (21 + i) (.bool t.wa)) (18 + i) (.bool (hasB 5 (i : Int) l).2)) (21 + i) (.bool (hasB 5 (i : Int) l).2) k = w1F l t i f k := by
  unfold w1F; rw [wB_yes h, wB_yes h]
  by_cases c : k = 21 + i
  · subst c; rw [updF_at, updF_at]
  · rw [updF_ne c, updF_ne c]
    by_cases d : k = 18 + i
    · subst d; rw [updF_at, updF_at]
    · rw [updF_ne d, updF_ne d, updF_ne c, updF_ne d]
theorem rF_24 {l : List Brk} {t : Tru} {sh : T3} {bk : Nat → Bool} {i : Nat} (hi : i < 3) : rF l t sh bk i (24 + i) = .bool (bk i) := by
  unfold rF
  rw [if_neg (by omega), if_neg (by omega), if_neg (by omega), if_pos (by omega), if_neg (by omega), Nat.add_sub_cancel_left]
theorem w2_no {l : List Brk} {t : Tru} {sh : T3} {i k : Nat} (h : (hasB 6 (i : Int) l).1 = false) (hi : i < 3) : w1F l t i (rF l t sh (at3 sh) i) k = w2F l t sh i (rF l t sh (at3 sh) i) k := by
  unfold w2F
  by_cases c : k = 24 + i
  · subst c; rw [updF_at, wB_no h]; unfold w1F; rw [updF_ne (by omega), updF_ne (by omega), rF_24 hi]
  · rw [updF_ne c]
theorem w2_yes {l : List Brk} {t : Tru} {sh : T3} {i k : Nat} {f : Nat → Value} (h : (hasB 6 (i : Int) l).1 = true) : updF (w1F l t i f) (24 + i) (.bool (hasB 6 (i : Int) l).2) k = w2F l t sh i f k := by
  unfold w2F; rw [wB_yes h]
section
variable {N M P : Nat} {l : List Brk} {D : List T3} {lag : Nat} {sh : T3} {fi : Bool} {wp : Nat → Option Nat} {W : World}
theorem plF_82 {q : Nat} (hq : q < 6) : plF l D lag sh fi wp (82 + q) = .pointer ((wp q).map fun b => ⟨b, 0, none⟩) := by
  unfold plF
  rw [if_neg (by omega), if_neg (by omega), if_neg (by omega), if_neg (by omega), if_neg (by omega), if_neg (by omega), if_neg (by omega), if_neg (by omega), if_neg (by omega), if_neg (by omega), Nat.add_sub_cancel_left]
theorem plF_76 {i : Nat} (hi : i < 3) : plF l D lag sh fi wp (76 + i) = .bool (hasB 2 (i : Int) l).1 := by
  have h1 : i = 0 ∨ i = 1 ∨ i = 2 := by omega
  rcases h1 with rfl | rfl | rfl <;> rfl
theorem plF_79 {i : Nat} (hi : i < 3) : plF l D lag sh fi wp (79 + i) = .bool (hasB 1 (i : Int) l).1 := by
  have h1 : i = 0 ∨ i = 1 ∨ i = 2 := by omega
  rcases h1 with rfl | rfl | rfl <;> rfl
/-- The box of wire i: none, or it shows what it shows. -/
theorem PlAt.wire5 (h : PlAt N M P l D lag sh fi wp W) {i : Nat} (hi : i < 3) : (W.cell? ⟨P, 82 + i, none⟩ = some (.pointer none) ∧ (hasB 5 (i : Int) l).1 = false) ∨ ∃ b, W.cell? ⟨P, 82 + i, none⟩ = some (.pointer (some ⟨b, 0, none⟩)) ∧ (hasB 5 (i : Int) l).1 = true ∧ W.cell? ⟨b, 0, none⟩ = some (.bool (hasB 5 (i : Int) l).2) ∧ b < W.heap.size := by
  have h1 := h.wi i (by omega)
  have h2 := h.cell (show 82 + i < 88 by omega)
  rw [plF_82 (by omega)] at h2
  have e : hasB (wireK i) ((i % 3 : Nat) : Int) l = hasB 5 (i : Int) l := by unfold wireK; rw [if_pos hi, Nat.mod_eq_of_lt hi]
  rw [e] at h1
  revert h1 h2
  cases wp i with
  | none => exact fun h1 h2 => Or.inl ⟨h2, h1⟩
  | some b => exact fun h1 h2 => Or.inr ⟨b, h2, h1.1, h1.2.2.2.2, cell_lt h1.2.2.2.2⟩
theorem PlAt.wire6 (h : PlAt N M P l D lag sh fi wp W) {i : Nat} (hi : i < 3) : (W.cell? ⟨P, 85 + i, none⟩ = some (.pointer none) ∧ (hasB 6 (i : Int) l).1 = false) ∨ ∃ b, W.cell? ⟨P, 85 + i, none⟩ = some (.pointer (some ⟨b, 0, none⟩)) ∧ (hasB 6 (i : Int) l).1 = true ∧ W.cell? ⟨b, 0, none⟩ = some (.bool (hasB 6 (i : Int) l).2) ∧ b < W.heap.size := by
  have h1 := h.wi (3 + i) (by omega)
  have h2 := h.cell (show 82 + (3 + i) < 88 by omega)
  rw [plF_82 (by omega), show 82 + (3 + i) = 85 + i by omega] at h2
  have e : hasB (wireK (3 + i)) (((3 + i) % 3 : Nat) : Int) l = hasB 6 (i : Int) l := by unfold wireK; rw [if_neg (by omega), Nat.add_mod_left, Nat.mod_eq_of_lt hi]
  rw [e] at h1
  revert h1 h2
  cases wp (3 + i) with
  | none => exact fun h1 h2 => Or.inl ⟨h2, h1⟩
  | some b => exact fun h1 h2 => Or.inr ⟨b, h2, h1.1, h1.2.2.2.2, cell_lt h1.2.2.2.2⟩
end
/-- A new block of 31 cells, while it is written into. -/
structure SS (w1 : World) (S : Nat) (f : Nat → Value) (W : World) : Prop where
  bel : Below w1.heap.size w1 W
  hS : w1.heap.size ≤ S
  fb : W.heap[S]? = some (fO 31 f 52)
def updB (b : Bool) (f : Nat → Value) (k : Nat) (v : Value) : Nat → Value := bif b then updF f k v else f
section
variable {w1 W w2 : World} {S : Nat} {f g : Nat → Value}
theorem SS.step (h : SS w1 S f W) (hb : Below W.heap.size W w2) : SS w1 S f w2 := ⟨bStep h.bel hb, h.hS, blk_step h.fb hb⟩
theorem SS.set (h : SS w1 S f W) (k : Nat) (v : Value) : SS w1 S (updF f k v) (W.setCell ⟨S, k, none⟩ v) := ⟨bSet h.bel h.hS v, h.hS, fb_set h.fb⟩
theorem SS.ext (h : SS w1 S f W) (he : ∀ k, k < 31 → f k = g k) : SS w1 S g W := ⟨h.bel, h.hS, fb_ext h.fb he⟩
theorem SS.sets (h : SS w1 S f W) (o : Nat) (vs : List Value) : SS w1 S (fun k => if o ≤ k ∧ k < o + vs.length then vs.getD (k - o) undef else f k) (W.setCells S o vs) := ⟨bSetCells vs o h.bel h.hS, h.hS, fb_sets vs o h.fb⟩
theorem SS.lt (h : SS w1 S f W) : S < W.heap.size := blk_lt h.fb
/-- Two stores at different places, in whatever order. -/
theorem SS.put0 {b1 : Bool} {k0 k1 : Nat} {v0 v1 : Value} (h : SS w1 S (updB b1 (updB false f k0 v0) k1 v1) W) (hne : k0 ≠ k1) : SS w1 S (updB b1 (updB true f k0 v0) k1 v1) (W.setCell ⟨S, k0, none⟩ v0) := by
  have h2 := h.set k0 v0
  cases b1 with
  | false => exact h2
  | true =>
    refine h2.ext fun k _ => ?_
    show updF (updF f k1 v1) k0 v0 k = updF (updF f k0 v0) k1 v1 k
    by_cases c : k = k0
    · subst c; rw [updF_at, updF_ne hne, updF_at]
    · rw [updF_ne c]
      by_cases d : k = k1
      · subst d; rw [updF_at, updF_at]
      · rw [updF_ne d, updF_ne d, updF_ne c]
theorem SS.put1 {b0 : Bool} {k0 k1 : Nat} {v0 v1 : Value} (h : SS w1 S (updB false (updB b0 f k0 v0) k1 v1) W) : SS w1 S (updB true (updB b0 f k0 v0) k1 v1) (W.setCell ⟨S, k1, none⟩ v1) := h.set k1 v1
end
/-- The lies of channel i, copied. -/
def liF (t : Tru) (i : Nat) (b : Bool) (f : Nat → Value) : Nat → Value := bif b then (fun k => if i * 6 + 1 ≤ k ∧ k < i * 6 + 1 + 5 then .int .i64 (t.n (20 + (k - (i * 6 + 1)))) else f k) else f
theorem SS.putA {w1 W : World} {S i : Nat} {t : Tru} {f : Nat → Value} {b1 : Bool} (h : SS w1 S (liF t i b1 (updB false f (i * 6) (.bool true))) W) : SS w1 S (liF t i b1 (updB true f (i * 6) (.bool true))) (W.setCell ⟨S, i * 6, none⟩ (.bool true)) := by
  have h2 := h.set (i * 6) (.bool true)
  cases b1 with
  | false => exact h2
  | true =>
    refine h2.ext fun k _ => ?_
    show updF (fun k => if i * 6 + 1 ≤ k ∧ k < i * 6 + 1 + 5 then Value.int .i64 (t.n (20 + (k - (i * 6 + 1)))) else f k) (i * 6) (.bool true) k = if i * 6 + 1 ≤ k ∧ k < i * 6 + 1 + 5 then Value.int .i64 (t.n (20 + (k - (i * 6 + 1)))) else updF f (i * 6) (.bool true) k
    by_cases c : k = i * 6
    · subst c; rw [updF_at, if_neg (by omega), updF_at]
    · rw [updF_ne c, updF_ne c]
def liL (t : Tru) : List Value := [.int .i64 (t.n 20), .int .i64 (t.n 21), .int .i64 (t.n 22), .int .i64 (t.n 23), .int .i64 (t.n 24)]
theorem SS.putB {w1 W : World} {S i : Nat} {t : Tru} {f : Nat → Value} (h : SS w1 S (liF t i false f) W) : SS w1 S (liF t i true f) (W.setCells S (i * 6 + 1) (liL t)) := by
  refine (h.sets (i * 6 + 1) (liL t)).ext fun k _ => ?_
  show (if i * 6 + 1 ≤ k ∧ k < i * 6 + 1 + 5 then (liL t).getD (k - (i * 6 + 1)) undef else f k) = if i * 6 + 1 ≤ k ∧ k < i * 6 + 1 + 5 then Value.int .i64 (t.n (20 + (k - (i * 6 + 1)))) else f k
  by_cases c : i * 6 + 1 ≤ k ∧ k < i * 6 + 1 + 5
  · rw [if_pos c, if_pos c]
    have h5 : k - (i * 6 + 1) = 0 ∨ k - (i * 6 + 1) = 1 ∨ k - (i * 6 + 1) = 2 ∨ k - (i * 6 + 1) = 3 ∨ k - (i * 6 + 1) = 4 := by omega
    rcases h5 with e | e | e | e | e <;> rw [e] <;> rfl
  · rw [if_neg c, if_neg c]
theorem liL_one (t : Tru) : (liL t).toArray.all (·.oneCell') = true := all_oneCell_toArray fun v hv => by
  simp only [liL, List.mem_cons, List.not_mem_nil, or_false] at hv
  rcases hv with rfl | rfl | rfl | rfl | rfl <;> rfl
theorem size5 : (Try.prog.info? 35).map (·.size) = some 5 := by kernel_rfl
/-- Behind the copy of the lies. -/
def f4F (l : List Brk) (t : Tru) (sh : T3) (bk : Nat → Bool) (i : Nat) : Nat → Value := liF t i true (updB true (w2F l t sh i (rF l t sh bk i)) (i * 6) (.bool true))
theorem f4_hf {l : List Brk} {t : Tru} {sh : T3} {bk : Nat → Bool} {i : Nat} (k : Nat) (h : ¬ (i * 6 ≤ k ∧ k < i * 6 + 6)) : f4F l t sh bk i k = w2F l t sh i (rF l t sh bk i) k := by
  show (if i * 6 + 1 ≤ k ∧ k < i * 6 + 1 + 5 then Value.int .i64 (t.n (20 + (k - (i * 6 + 1)))) else updF (w2F l t sh i (rF l t sh bk i)) (i * 6) (.bool true) k) = _
  rw [if_neg (by omega), updF_ne (by omega)]
theorem f4_h0 {l : List Brk} {t : Tru} {sh : T3} {bk : Nat → Bool} {i : Nat} : f4F l t sh bk i (i * 6) = .bool true := by
  show (if i * 6 + 1 ≤ i * 6 ∧ i * 6 < i * 6 + 1 + 5 then Value.int .i64 (t.n (20 + (i * 6 - (i * 6 + 1)))) else updF (w2F l t sh i (rF l t sh bk i)) (i * 6) (.bool true) (i * 6)) = _
  rw [if_neg (by omega), updF_at]
theorem f4_lie {l : List Brk} {t : Tru} {sh : T3} {bk : Nat → Bool} {i q k : Nat} (hq : q < 5) (hl : (hasB 1 (i : Int) l).1 = true) : qF l t i (f4F l t sh bk i) q k = qF l t i (f4F l t sh bk i) (q + 1) k := by
  unfold qF
  by_cases c : i * 6 + 1 ≤ k ∧ k < i * 6 + 1 + q
  · rw [if_pos c, if_pos (by omega)]
  · rw [if_neg c]
    by_cases d : k = i * 6 + 1 + q
    · rw [if_pos (by omega)]
      show (if i * 6 + 1 ≤ k ∧ k < i * 6 + 1 + 5 then Value.int .i64 (t.n (20 + (k - (i * 6 + 1)))) else updF (w2F l t sh i (rF l t sh bk i)) (i * 6) (.bool true) k) = _
      rw [if_pos (by omega)]
      unfold valC
      rw [if_pos hl]
    · rw [if_neg (by omega)]
theorem valC_true {l : List Brk} {t : Tru} {i q : Nat} (hl : (hasB 1 (i : Int) l).1 = false) : valC l t i q = t.n q + t.n (5 + i * 5 + q) := by
  unfold valC; rw [hl]; rfl
theorem qF_0 {l : List Brk} {t : Tru} {i k : Nat} {f : Nat → Value} : f k = qF l t i f 0 k := by
  unfold qF; rw [if_neg (by omega)]
end Go.Proofs.Ytladkknbkgomfaa
