/-
  Functions that are told by a rule: what they hand back depends on their arguments' values alone.
-/
import Derived.Test.YtdelgbdiofkndaaGreatDoorG6Events
set_option linter.unusedSimpArgs false
set_option linter.unusedVariables false
namespace Go.Proofs.YtdelgbdiofkndaaGreatDoor
namespace Sx
open Go.RowKit

section
variable {P : Program} {tb : Tb}
/-- The rules of some functions. -/
abbrev Rules := List (Nat × (List Sv → Option Sv))
def spR (l : Rules) (f : FuncId) : Option (List Sv → St → Tree FLeaf) := match alook l f with
  | some g => some fun args σ => match g args with
    | some v => .leaf (v, σ)
    | none => .fail
  | none => none
/-- A rule is right. -/
def RuleOk (P : Program) (f : FuncId) (g : List Sv → Option Sv) : Prop := ∀ args v, g args = some v → v.freeB = true ∧ ∀ (e : Env) (w : World), Calls P f (args.map (·.den e)).toArray w fun en w' => en = .returned (v.den e) ∧ Below w.heap.size w w'
def RulesOk (P : Program) : Rules → Prop
  | [] => True
  | (f, g) :: l => RuleOk P f g ∧ RulesOk P l
theorem RulesOk.at_ : ∀ {l : Rules}, RulesOk P l → ∀ {f g}, alook l f = some g → RuleOk P f g
  | [], _, _, _, h => by cases h
  | (k, g) :: l, hl, f, g', h => by
    simp only [alook] at h
    cases c : Nat.beq k f with
    | true =>
      rw [c] at h
      obtain rfl := beq_iff'.1 c
      obtain rfl : g = g' := by simpa using h
      exact hl.1
    | false => rw [c] at h; exact RulesOk.at_ hl.2 h
theorem spR_ok {l : Rules} (h : RulesOk P l) : SpOk P (spR l) := by
  intro f k hk args σ y hy
  unfold spR at hk
  split at hk
  · rename_i g hg
    obtain rfl := Option.some.inj hk
    simp only [] at hy
    split at hy
    · rename_i v hv
      obtain rfl := (show _ = y from hy)
      obtain ⟨h1, h2⟩ := h.at_ hg args v hv
      exact FunOk.of_any h1 h2
    · exact hy.elim
  · cases hk
/-- A rule from another one: what is known where a value is asked for in other words. -/
theorem calls_den {f : FuncId} {args : List Sv} {w : World} {a : Array Value} {v v' : Value} (h : Calls P f (args.map (·.den env0)).toArray w fun en w' => en = .returned v ∧ Below w.heap.size w w') (ha : (args.map (·.den env0)).toArray = a) (hv : v = v') :
    Calls P f a w fun en w' => en = .returned v' ∧ Below w.heap.size w w' := by subst ha hv; exact h
/-- What a tree hands back where it has one way that holds. -/
def rdB : Tree FLeaf → Bool
  | .leaf y => match y.1 with
    | .one (.b b _) => b
    | _ => false
  | .must _ t => rdB t
  | .br b t f => bif b then rdB t else rdB f
  | .fail => false
def isB : Tree FLeaf → Bool
  | .leaf y => match y.1 with
    | .one (.b _ _) => true
    | _ => false
  | .must b t => b && isB t
  | .br b t f => bif b then isB t else isB f
  | .fail => false
theorem rdB_at : ∀ {T : Tree FLeaf}, isB T = true → ∃ y l, T.At y ∧ y.1 = .one (.b (rdB T) l)
  | .leaf y, h => by
    obtain ⟨v, σ⟩ := y
    cases v with
    | one c => cases c with
      | b b l => exact ⟨_, l, rfl, rfl⟩
      | _ => cases h
    | _ => cases h
  | .must b t, h => by
    obtain ⟨h1, h2⟩ := Bool.and_eq_true_iff.1 (show (b && isB t) = true from h)
    obtain ⟨y, l, h3, h4⟩ := rdB_at h2
    exact ⟨y, l, ⟨h1, h3⟩, h4⟩
  | .br b t f, h => by
    have h' : (bif b then isB t else isB f) = true := h
    cases b with
    | true => obtain ⟨y, l, h3, h4⟩ := rdB_at (T := t) h'; exact ⟨y, l, Or.inl ⟨rfl, h3⟩, h4⟩
    | false => obtain ⟨y, l, h3, h4⟩ := rdB_at (T := f) h'; exact ⟨y, l, Or.inr ⟨rfl, h3⟩, h4⟩
/-- A truth value, from numbers: by evaluation, in any world. -/
theorem bool_any {wf : List FuncId} {sp : FuncId → Option (List Sv → St → Tree FLeaf)} {fuel d f : Nat} (hT : TbOk P tb) (hm : P.follows .mixedOrders = true) (hs : SpOk P sp) {args : List Sv} (hargs : ∀ x ∈ args, x.freeB = true)
    (h : isB (evFn tb wf sp fuel d f args st0) = true) {r : Bool} (hr : rdB (evFn tb wf sp fuel d f args st0) = r) (e : Env) (w : World) (hG : Glob0 w := by exact glob0 w) : Calls P f (args.map (·.den e)).toArray w fun en w' => en = .returned (.bool r) ∧ Below w.heap.size w w' := by
  obtain ⟨y, l, h1, h2⟩ := rdB_at h
  have := (evFn_at hT hm hs h1).any hargs (by rw [h2]; rfl) w hG
  rw [h2, hr] at this
  have he : args.map (·.den e) = args.map (·.den env0) := List.map_congr_left fun x hx => Sv.free_den (hargs x hx) env0 e
  rw [he]
  exact this
def spOr (a b : FuncId → Option (List Sv → St → Tree FLeaf)) (f : FuncId) : Option (List Sv → St → Tree FLeaf) := match a f with
  | some g => some g
  | none => b f
theorem spOr_ok {a b : FuncId → Option (List Sv → St → Tree FLeaf)} (ha : SpOk P a) (hb : SpOk P b) : SpOk P (spOr a b) := by
  intro f g hg
  unfold spOr at hg
  split at hg
  · rename_i k hk; exact ha f g (hk.trans hg)
  · exact hb f g hg
end
end Sx
end Go.Proofs.YtdelgbdiofkndaaGreatDoor

/-
  A function that only reads: what is known of it at one state is known at every state that has the same blocks under other names.
-/
set_option linter.unusedSimpArgs false
set_option linter.unusedVariables false
namespace Go.Proofs.YtdelgbdiofkndaaGreatDoor
namespace Sx
open Go.RowKit

section
variable {P : Program} {tb : Tb}
def Pv.ren (ρ : Nat → Nat) : Pv → Pv
  | .ptr id off => .ptr (ρ id) off
  | p => p
def Cv.ren (ρ : Nat → Nat) : Cv → Cv
  | .ptr id off => .ptr (ρ id) off
  | .slc id off len cap => .slc (ρ id) off len cap
  | .fn f caps => .fn f (caps.map (Pv.ren ρ))
  | c => c
def Sv.ren (ρ : Nat → Nat) : Sv → Sv
  | .one c => .one (c.ren ρ)
  | .agg cs => .agg (cs.map (Cv.ren ρ))
  | .tup vs => .tup (vs.map fun p => (p.1, p.2.map (Cv.ren ρ)))
def Env.ren (e : Env) (ρ : Nat → Nat) : Env := ⟨fun id => e.pl (ρ id), e.nm⟩
theorem Pv.ren_den (ρ : Nat → Nat) (e : Env) (p : Pv) : (p.ren ρ).den e = p.den (e.ren ρ) := by cases p <;> rfl
theorem Sn.ren_den (ρ : Nat → Nat) (e : Env) (n : Sn) : n.den (e.ren ρ) = n.den e := by cases n <;> rfl
theorem Cv.ren_den (ρ : Nat → Nat) (e : Env) (c : Cv) : (c.ren ρ).den e = c.den (e.ren ρ) := by
  cases c with
  | ptr id off => simp only [Cv.ren, Cv.den, Sn.ren_den]; rfl
  | slc id off len cap => simp only [Cv.ren, Cv.den, Sn.ren_den]; rfl
  | fn f caps => simp only [Cv.ren, Cv.den, List.map_map, Function.comp_def, Pv.ren_den]
  | _ => rfl
theorem densA_ren (ρ : Nat → Nat) (e : Env) (cs : List Cv) : densA e (cs.map (Cv.ren ρ)) = densA (e.ren ρ) cs := by
  unfold densA
  rw [List.map_map]
  congr 1
  exact List.map_congr_left fun c _ => Cv.ren_den ρ e c
theorem Sv.ren_den (ρ : Nat → Nat) (e : Env) (v : Sv) : (v.ren ρ).den e = v.den (e.ren ρ) := by
  cases v with
  | one c => exact Cv.ren_den ρ e c
  | agg cs => simp only [Sv.ren, Sv.den, densA_ren]
  | tup vs =>
    simp only [Sv.ren, Sv.den, List.map_map]
    congr 2
    refine List.map_congr_left fun p _ => ?_
    simp only [Function.comp, compDen, densA_ren, List.map_map]
    congr 2
    exact List.map_congr_left fun c _ => Cv.ren_den ρ e c
/-- The blocks of a state that a function reads: each is one of the other state's. -/
def SameCells (ρ : Nat → Nat) (cs cs1 : List Cv) : Prop := cs1.length = cs.length ∧ ∀ (e : Env) (j : Nat), (cs1[j]?).map (·.den e) = (cs[j]?).map (·.den (e.ren ρ))
def BkIs (σ : St) (ρ : Nat → Nat) : List (Nat × Blk) → Prop
  | [] => True
  | (id, b) :: l => (∃ t cs cs1 ro cp, b = .ar t true cs none ∧ alook σ.bk (ρ id) = some (.ar t ro cs1 cp) ∧ SameCells ρ cs cs1) ∧ BkIs σ ρ l
theorem BkIs.at_ {σ : St} {ρ : Nat → Nat} : ∀ {l : List (Nat × Blk)}, BkIs σ ρ l → ∀ {id b}, alook l id = some b → ∃ t cs cs1 ro cp, b = .ar t true cs none ∧ alook σ.bk (ρ id) = some (.ar t ro cs1 cp) ∧ SameCells ρ cs cs1
  | [], _, _, _, h => by cases h
  | (k, c) :: l, hl, id, b, h => by
    simp only [alook] at h
    cases hk : Nat.beq k id with
    | true =>
      rw [hk] at h
      obtain rfl := beq_iff'.1 hk
      obtain rfl : c = b := by simpa using h
      exact hl.1
    | false => rw [hk] at h; exact BkIs.at_ hl.2 h
def closedB (σ : St) : Bool := σ.bk.all fun p => p.2.inB (σ.bk.map (·.1)) []
theorem alook_mem {α : Type} : ∀ {l : List (Nat × α)} {n : Nat} {v : α}, alook l n = some v → (n, v) ∈ l
  | [], _, _, h => by cases h
  | (k, u) :: l, n, v, h => by
    simp only [alook] at h
    cases hk : Nat.beq k n with
    | true =>
      rw [hk] at h
      obtain rfl := beq_iff'.1 hk
      obtain rfl : u = v := by simpa using h
      exact List.mem_cons_self
    | false => rw [hk] at h; exact List.mem_cons_of_mem _ (alook_mem h)
theorem alook_isSome {α : Type} : ∀ {l : List (Nat × α)} {n : Nat}, n ∈ l.map (·.1) → (alook l n).isSome = true
  | [], _, h => by cases h
  | (k, u) :: l, n, h => by
    simp only [alook]
    cases hk : Nat.beq k n with
    | true => rfl
    | false =>
      rw [List.map_cons, List.mem_cons] at h
      rcases h with rfl | h
      · rw [Nat.beq_refl] at hk; cases hk
      · exact alook_isSome h
theorem ren_hp {σ0 σ : St} {ρ : Nat → Nat} (hb : BkIs σ ρ σ0.bk) (hc : closedB σ0 = true) {C : Ctx} {e : Env} {w : World} (hp : Hp C e (look σ) w) : Hp (ctx0 w) (e.ren ρ) (look σ0) w := by
  have blk : ∀ id b, look σ0 (.k id) = some (.bk b) → ∃ t cs cs1 ro cp, alook σ0.bk id = some (.ar t true cs none) ∧ b = .ar t true cs.length none ∧ alook σ.bk (ρ id) = some (.ar t ro cs1 cp) := by
    intro id b h
    simp only [look, Option.map_eq_some_iff] at h
    obtain ⟨b0, h1, h2⟩ := h
    obtain ⟨t, cs, cs1, ro, cp, rfl, h3, _⟩ := hb.at_ h1
    exact ⟨t, cs, cs1, ro, cp, h1, by simpa [Blk.info] using h2.symm, h3⟩
  have S : Sub (stoOf (σ0.bk.map (·.1)) []) (look σ0) := by
    refine ⟨fun id h => ?_, fun c h => ?_⟩
    · unfold kn at h ⊢
      simp only [stoOf] at h
      split at h
      · rename_i hm
        obtain ⟨b, hb'⟩ := Option.isSome_iff_exists.1 (alook_isSome (memb_iff.1 hm))
        simp only [look, hb']; rfl
      · cases h
    · unfold knn at h
      simp only [stoOf] at h
      split at h
      · rename_i hm; cases hm
      · cases h
  refine ⟨fun _ h => h, ?_, ?_, ?_, ?_, ?_, ?_, ?_, ⟨fun _ _ h => (by cases h), fun _ _ h => (by cases h)⟩, ⟨rfl, rfl, rfl, Nat.le_refl _, fun _ _ _ => rfl, hp.fr.glob0⟩⟩
  · intro id off v hv
    have hv' := hv
    simp only [look, Option.bind_eq_some_iff] at hv'
    obtain ⟨b0, h1, h2⟩ := hv'
    obtain ⟨t, cs, cs1, ro, cp, rfl, h3, hsame⟩ := hb.at_ h1
    obtain ⟨c, h4, h5⟩ := Option.map_eq_some_iff.1 h2
    obtain rfl : c = v := by simpa using h5
    have h4 : cs[off]? = some c := h4
    have hlt := (List.getElem?_eq_some_iff.1 h4).1
    have hin := List.all_eq_true.1 hc _ (alook_mem h1)
    refine ⟨?_, ⟨t, true, cs.length, none, by simp only [look, h1]; rfl, hlt⟩, ?_⟩
    · have : (Blk.ar t true cs none).inB (σ0.bk.map (·.1)) [] = true := hin
      simp only [Blk.inB, Bool.and_eq_true] at this
      exact (Cv.inB_sc (List.all_eq_true.1 this.1 c (List.mem_of_getElem? h4))).sub S
    · have hlt1 : off < cs1.length := by rw [hsame.1]; exact hlt
      have h5 := hsame.2 e off
      rw [h4, List.getElem?_eq_getElem hlt1] at h5
      have h5 : (cs1[off]).den e = c.den (e.ren ρ) := by simpa using h5
      have h6 : look σ (.c (ρ id) off) = some (.cv cs1[off]) := by
        simp only [look, h3, Option.bind_some, Blk.cell, List.getElem?_eq_getElem hlt1, Option.map_some]
      obtain ⟨_, _, h7⟩ := hp.cl _ _ _ h6
      rw [h5] at h7
      exact h7
  · intro id t n cp h
    obtain ⟨t', cs, cs1, ro, cp', _, h2, _⟩ := blk id _ h
    cases h2
  · intro id t ro n f cp h
    obtain ⟨t', cs, cs1, ro, cp', _, h2, _⟩ := blk id _ h
    cases h2
  · intro id b c es h hcp
    obtain ⟨t', cs, cs1, ro, cp', _, rfl, _⟩ := blk id _ h
    cases hcp
  · intro id id' b b' h1 _ h3
    obtain ⟨t', cs, cs1, ro, cp', _, rfl, _⟩ := blk id _ h1
    cases h3
  · intro id b h _
    obtain ⟨t', cs, cs1, ro, cp', _, rfl, h3⟩ := blk id _ h
    exact hp.lt (ρ id) (.ar t' ro cs1.length cp') (by simp only [look, h3]; rfl) rfl
  · intro id b h hr
    obtain ⟨t', cs, cs1, ro, cp', _, rfl, _⟩ := blk id _ h
    cases hr
/-- From one state to every other that has its blocks. -/
theorem FunOk.ren {f : FuncId} {args0 args : List Sv} {σ0 σ0' σ : St} {v : Sv} (h : FunOk P f args0 σ0 v σ0') (ρ : Nat → Nat) (hb : BkIs σ ρ σ0.bk) (hc : closedB σ0 = true) (ha : ∀ e, args.map (·.den e) = args0.map (·.den (e.ren ρ))) (hs : ∀ x ∈ args0, x.sc (look σ0)) (hv : v.freeB = true) : FunOk P f args σ v σ := by
  refine ⟨fun C e w hp _ => ?_, KeepL.refl _⟩
  have h1 := h.run (ctx0 w) (e.ren ρ) w (ren_hp hb hc hp) hs
  rw [ha e]
  refine h1.mono fun en w' => ?_
  rintro ⟨e', -, hp', rfl, -⟩
  have hB : Below w.heap.size w w' := ⟨hp'.fr.os, hp'.fr.tape, hp'.fr.output, hp'.fr.size, fun k hk => hp'.fr.block k hk (by show ¬ w.heap.size ≤ k; omega)⟩
  exact ⟨e, Agree.refl _ _, hp.keep hB, by rw [Sv.free_den hv e' e], Sv.free_sc hv _⟩

/-! Cells of numbers and truth values: what they read as. -/
def isL : List Lf → List Cv → Bool
  | [], [] => true
  | .b :: ls, .b _ _ :: cs => isL ls cs
  | .i k :: ls, .i k' _ _ :: cs => decide (k = k') && isL ls cs
  | _, _ => false
def bOf (cs : List Cv) (j : Nat) : Bool := match cs[j]? with
  | some (.b v _) => v
  | _ => false
def nOf (cs : List Cv) (j : Nat) : Int := match cs[j]? with
  | some (.i _ n _) => n
  | _ => 0
theorem isL_den {c0 : List Cv} : ∀ {ls : List Lf} {cs : List Cv} {j : Nat}, isL ls cs = true → (∀ i, cs[i]? = c0[j + i]?) → ∀ (e e' : Env) (i : Nat), (cs[i]?).map (·.den e) = ((symL (bOf c0) (nOf c0) j ls)[i]?).map (·.den e')
  | [], [], j, _, _ => fun e e' i => by simp [symL]
  | [], _ :: _, _, h, _ => by cases h
  | .b :: _, [], _, h, _ => by cases h
  | .i _ :: _, [], _, h, _ => by cases h
  | l :: ls, c :: cs, j, h, hi => by
    intro e e' i
    have h0 : c0[j]? = some c := by have := hi 0; simpa using this.symm
    have hn : ∀ i, cs[i]? = c0[j + 1 + i]? := fun i => by
      have := hi (i + 1)
      rw [show j + (i + 1) = j + 1 + i by omega] at this
      exact this
    cases i with
    | zero =>
      simp only [symL, List.getElem?_cons_zero, Option.map_some]
      congr 1
      cases l with
      | b => cases c with
        | b v fl => simp [Lf.cv, Cv.den, bOf, h0]
        | _ => cases h
      | i k => cases c with
        | i k' v fl =>
          simp only [isL, Bool.and_eq_true, decide_eq_true_eq] at h
          obtain ⟨rfl, _⟩ := h
          simp [Lf.cv, Cv.den, nOf, h0]
        | _ => cases h
    | succ i =>
      simp only [symL, List.getElem?_cons_succ]
      have h' : isL ls cs = true := by
        cases l with
        | b => cases c with
          | b v fl => exact h
          | _ => cases h
        | i k => cases c with
          | i k' v fl => exact (Bool.and_eq_true_iff.1 h).2
          | _ => cases h
      exact isL_den h' hn e e' i
theorem isL_len : ∀ {ls : List Lf} {cs : List Cv}, isL ls cs = true → cs.length = ls.length
  | [], [], _ => rfl
  | [], _ :: _, h => by cases h
  | .b :: _, [], h => by cases h
  | .i _ :: _, [], h => by cases h
  | .b :: ls, c :: cs, h => by
    cases c with
    | b v fl => simp [isL_len (show isL ls cs = true from h)]
    | _ => cases h
  | .i k :: ls, c :: cs, h => by
    cases c with
    | i k' v fl => simp [isL_len (Bool.and_eq_true_iff.1 h).2]
    | _ => cases h
theorem symL_len (bs : Nat → Bool) (ns : Nat → Int) : ∀ (ls : List Lf) (j : Nat), (symL bs ns j ls).length = ls.length
  | [], _ => rfl
  | _ :: ls, j => by simp [symL, symL_len bs ns ls]
theorem same_isL {ρ : Nat → Nat} {ls : List Lf} {cs : List Cv} (h : isL ls cs = true) : SameCells ρ (symL (bOf cs) (nOf cs) 0 ls) cs :=
  ⟨by rw [isL_len h, symL_len], fun e j => isL_den h (fun i => by rw [Nat.zero_add]) e _ j⟩
theorem same_cons {ρ : Nat → Nat} {c c1 : Cv} {cs cs1 : List Cv} (h0 : ∀ e, c1.den e = c.den (e.ren ρ)) (h : SameCells ρ cs cs1) : SameCells ρ (c :: cs) (c1 :: cs1) := by
  refine ⟨by simp [h.1], fun e j => ?_⟩
  cases j with
  | zero => simp [h0]
  | succ j => simpa using h.2 e j

/-- Rules that look at what their arguments point to. -/
abbrev RulesM := List (Nat × (List Sv → St → Option Sv))
def spM (l : RulesM) (f : FuncId) : Option (List Sv → St → Tree FLeaf) := match alook l f with
  | some g => some fun args σ => match g args σ with
    | some v => .leaf (v, σ)
    | none => .fail
  | none => none
def RuleMOk (P : Program) (f : FuncId) (g : List Sv → St → Option Sv) : Prop := ∀ args σ v, g args σ = some v → FunOk P f args σ v σ
def RulesMOk (P : Program) : RulesM → Prop
  | [] => True
  | (f, g) :: l => RuleMOk P f g ∧ RulesMOk P l
theorem RulesMOk.at_ : ∀ {l : RulesM}, RulesMOk P l → ∀ {f g}, alook l f = some g → RuleMOk P f g
  | [], _, _, _, h => by cases h
  | (k, g) :: l, hl, f, g', h => by
    simp only [alook] at h
    cases c : Nat.beq k f with
    | true =>
      rw [c] at h
      obtain rfl := beq_iff'.1 c
      obtain rfl : g = g' := by simpa using h
      exact hl.1
    | false => rw [c] at h; exact RulesMOk.at_ hl.2 h
theorem spM_ok {l : RulesM} (h : RulesMOk P l) : SpOk P (spM l) := by
  intro f k hk args σ y hy
  unfold spM at hk
  split at hk
  · rename_i g hg
    obtain rfl := Option.some.inj hk
    simp only [] at hy
    split at hy
    · rename_i v hv
      obtain rfl := (show _ = y from hy)
      exact h.at_ hg args σ v hv
    · exact hy.elim
  · cases hk
end
end Sx
end Go.Proofs.YtdelgbdiofkndaaGreatDoor

/-
  What a function hands back, told in plain numbers and truth values.
-/
set_option linter.unusedSimpArgs false
set_option linter.unusedVariables false
namespace Go.Proofs.YtdelgbdiofkndaaGreatDoor
namespace Sx
open Go.RowKit

inductive Lv where
  | b (v : Bool)
  | i (k : IntKind) (n : Int)
inductive Vv where
  | one (x : Lv)
  | agg (xs : List Lv)
  | tup (xs : List (Bool × List Lv))
def Lv.cv : Lv → Cv
  | .b v => .b v false
  | .i k n => .i k n false
def Lv.val : Lv → Value
  | .b v => .bool v
  | .i k n => .int k n
def Cv.lv : Cv → Option Lv
  | .b v _ => some (.b v)
  | .i k n _ => some (.i k n)
  | _ => none
def lvs : List Cv → Option (List Lv)
  | [] => some []
  | c :: cs => match c.lv, lvs cs with
    | some x, some xs => some (x :: xs)
    | _, _ => none
def lvt : List (Bool × List Cv) → Option (List (Bool × List Lv))
  | [] => some []
  | p :: ps => match lvs p.2, lvt ps with
    | some x, some xs => some ((p.1, x) :: xs)
    | _, _ => none
def Sv.vv : Sv → Option Vv
  | .one c => c.lv.map .one
  | .agg cs => (lvs cs).map .agg
  | .tup vs => (lvt vs).map .tup
def Vv.sv : Vv → Sv
  | .one x => .one x.cv
  | .agg xs => .agg (xs.map Lv.cv)
  | .tup xs => .tup (xs.map fun p => (p.1, p.2.map Lv.cv))
theorem Cv.lv_den {c : Cv} {x : Lv} (h : c.lv = some x) (e e' : Env) : c.den e = x.cv.den e' := by
  cases c <;> simp only [Cv.lv, Option.some.injEq, reduceCtorEq] at h <;> subst h <;> rfl
theorem lvs_den : ∀ {cs : List Cv} {xs : List Lv}, lvs cs = some xs → ∀ e e', cs.map (·.den e) = (xs.map Lv.cv).map (·.den e')
  | [], xs, h, e, e' => by obtain rfl := Option.some.inj h; rfl
  | c :: cs, xs, h, e, e' => by
    simp only [lvs] at h
    split at h
    · rename_i x xs' h1 h2
      obtain rfl := Option.some.inj h
      simp only [List.map_cons]
      rw [Cv.lv_den h1 e e', lvs_den h2 e e']
    · cases h
theorem lvt_den : ∀ {ps : List (Bool × List Cv)} {xs : List (Bool × List Lv)}, lvt ps = some xs → ∀ e e', ps.map (compDen e) = (xs.map fun p => (p.1, p.2.map Lv.cv)).map (compDen e')
  | [], xs, h, e, e' => by obtain rfl := Option.some.inj h; rfl
  | p :: ps, xs, h, e, e' => by
    simp only [lvt] at h
    split at h
    · rename_i x xs' h1 h2
      obtain rfl := Option.some.inj h
      have h3 := lvs_den h1 e e'
      have h4 := lvt_den h2 e e'
      simp only [List.map_cons]
      rw [h4]
      congr 1
      simp only [compDen, densA]
      rw [h3]
    · cases h
theorem Sv.vv_den {v : Sv} {x : Vv} (h : v.vv = some x) (e e' : Env) : v.den e = x.sv.den e' := by
  cases v with
  | one c =>
    obtain ⟨y, hy, rfl⟩ := Option.map_eq_some_iff.1 h
    exact Cv.lv_den hy e e'
  | agg cs =>
    obtain ⟨y, hy, rfl⟩ := Option.map_eq_some_iff.1 h
    show Value.agg (cs.map _).toArray = Value.agg ((y.map Lv.cv).map _).toArray
    rw [lvs_den hy e e']
  | tup vs =>
    obtain ⟨y, hy, rfl⟩ := Option.map_eq_some_iff.1 h
    show Value.tuple (vs.map _).toArray = Value.tuple ((y.map _).map _).toArray
    rw [lvt_den hy e e']
theorem Lv.cv_free (x : Lv) : x.cv.freeB = true := by cases x <;> rfl
theorem lv_free (xs : List Lv) : (xs.map Lv.cv).all Cv.freeB = true := by
  rw [List.all_eq_true]
  intro c hc
  obtain ⟨x, _, rfl⟩ := List.mem_map.1 hc
  exact Lv.cv_free x
theorem Vv.sv_free (x : Vv) : x.sv.freeB = true := by
  cases x with
  | one x => exact Lv.cv_free x
  | agg xs => exact lv_free xs
  | tup xs =>
    show List.all _ _ = true
    rw [List.all_eq_true]
    intro p hp
    obtain ⟨q, _, rfl⟩ := List.mem_map.1 hp
    exact lv_free q.2

section
variable {P : Program} {tb : Tb}
/-- The one way that is left, what it demands, and what it hands back. -/
def res (T : Tree FLeaf) : Option (List Bool × Vv) := match peelF T with
  | some (l, (v, _)) => match v.vv with
    | some x => some (l, x)
    | none => none
  | none => none
theorem res_at {T : Tree FLeaf} {l : List Bool} {x : Vv} (h : res T = some (l, x)) (hl : ∀ b ∈ l, b = true) : ∃ y, T.At y ∧ y.1.vv = some x := by
  unfold res at h
  split at h
  · rename_i l' v σ hp
    split at h
    · rename_i x' hx
      obtain ⟨rfl, rfl⟩ := Prod.mk.inj (Option.some.inj h)
      exact ⟨(v, σ), peelF_at hp hl, hx⟩
    · cases h
  · cases h
theorem FunOk.val {f : FuncId} {args : List Sv} {σ σ' : St} {v u : Sv} (h : FunOk P f args σ v σ') (hd : ∀ e, v.den e = u.den e) (hu : u.freeB = true) : FunOk P f args σ u σ' := by
  refine ⟨fun C e w hp hs => ?_, h.keep⟩
  refine (h.run C e w hp hs).mono fun en w' => ?_
  rintro ⟨e', h1, h2, rfl, -⟩
  exact ⟨e', h1, h2, by rw [hd e'], Sv.free_sc hu _⟩
theorem res_ok {wf : List FuncId} {sp : FuncId → Option (List Sv → St → Tree FLeaf)} {fuel d f : Nat} (hT : TbOk P tb) (hm : P.follows .mixedOrders = true) (hs : SpOk P sp) {args : List Sv} {σ : St} {l : List Bool} {x : Vv}
    (h : res (evFn tb wf sp fuel d f args σ) = some (l, x)) (hl : ∀ b ∈ l, b = true) : ∃ σ', FunOk P f args σ x.sv σ' := by
  obtain ⟨y, h1, h2⟩ := res_at h hl
  exact ⟨y.2, (evFn_at hT hm hs h1).val (fun e => Sv.vv_den h2 e e) x.sv_free⟩
/-- A function of plain values: what it hands back, in any world. -/
theorem res_any {wf : List FuncId} {sp : FuncId → Option (List Sv → St → Tree FLeaf)} {fuel d f : Nat} (hT : TbOk P tb) (hm : P.follows .mixedOrders = true) (hs : SpOk P sp) {args : List Sv} (hargs : ∀ x ∈ args, x.freeB = true) {l : List Bool} {x : Vv}
    (h : res (evFn tb wf sp fuel d f args st0) = some (l, x)) (hl : ∀ b ∈ l, b = true) (w : World) (hG : Glob0 w := by exact glob0 w) : Calls P f (args.map (·.den env0)).toArray w fun en w' => en = .returned (x.sv.den env0) ∧ Below w.heap.size w w' := by
  obtain ⟨σ', h1⟩ := res_ok hT hm hs h hl
  exact h1.any hargs x.sv_free w hG

/-! Arguments that are numbers and truth values: the names that stand for them. -/
def canon (ls : List Lf) (cs : List Cv) : List Cv := symL (bOf cs) (nOf cs) 0 ls
theorem canon_den {ls : List Lf} {cs : List Cv} (h : isL ls cs = true) (e e' : Env) : (Sv.agg cs).den e = (Sv.agg (canon ls cs)).den e' := by
  show Value.agg (densA e cs) = Value.agg (densA e' (canon ls cs))
  congr 1
  unfold densA canon
  congr 1
  apply List.ext_getElem?
  intro i
  rw [List.getElem?_map, List.getElem?_map]
  exact isL_den h (fun i => by rw [Nat.zero_add]) e e' i
end
end Sx
end Go.Proofs.YtdelgbdiofkndaaGreatDoor

/-
  A function that hands back a new row of numbers.
-/
set_option linter.unusedSimpArgs false
set_option linter.unusedVariables false
namespace Go.Proofs.YtdelgbdiofkndaaGreatDoor
namespace Sx
open Go.RowKit

section
variable {P : Program} {tb : Tb}
/-- A state that knows one more block, and one more number. -/
def addRo (σ : St) (t : TypeId) (cs : List Cv) : St := { σ with bk := (σ.nx, .ar t false cs none) :: σ.bk, nx := σ.nx + 1, nl := σ.nn :: σ.nl, nn := σ.nn + 1 }
def addEnv (σ : St) (e : Env) (p : Nat × Nat) (m : Nat) : Env := ⟨fun id => if id = σ.nx then p else e.pl id, fun c => if c = σ.nn then m else e.nm c⟩
theorem kn_look {σ : St} {id : Nat} : kn (look σ) id ↔ (alook σ.bk id).isSome = true := by
  unfold kn
  simp only [look, Option.isSome_map]
theorem knn_look {σ : St} {c : Nat} : knn (look σ) c ↔ memb σ.nl c = true := by
  unfold knn
  simp only [look]
  split
  · rename_i h; simp [h]
  · rename_i h; simp [h]
theorem addRo_agree {σ : St} {e : Env} {p : Nat × Nat} {m : Nat} (h1 : alook σ.bk σ.nx = none) (h2 : memb σ.nl σ.nn = false) : Agree (look σ) e (addEnv σ e p m) := by
  refine ⟨fun id hid => ?_, fun c hc => ?_⟩
  · have : id ≠ σ.nx := fun e => by rw [kn_look, e, h1] at hid; cases hid
    exact if_neg this
  · have : c ≠ σ.nn := fun e => by rw [knn_look, e, h2] at hc; cases hc
    exact if_neg this
theorem addRo_sub (σ : St) (t : TypeId) (cs : List Cv) : Sub (look σ) (look (addRo σ t cs)) := by
  refine ⟨fun id hid => ?_, fun c hc => ?_⟩
  · rw [kn_look] at hid ⊢
    simp only [addRo, alook]
    split
    · rfl
    · exact hid
  · rw [knn_look] at hc ⊢
    simp only [addRo, memb]
    split
    · rfl
    · exact hc
theorem Hp.addRo {C : Ctx} {e : Env} {σ : St} {w : World} (h : Hp C e (look σ) w) (h1 : alook σ.bk σ.nx = none) (h2 : memb σ.nl σ.nn = false) {t : TypeId} {cs : List Cv} (hf : cs.all Cv.freeB = true) {p : Nat × Nat} {m : Nat} (hp : p.1 < w.heap.size)
    (hnew : ∀ id b, look σ (.k id) = some (.bk b) → b.live = true → (e.pl id).1 ≠ p.1) (hM : C.M p.1) (hfz : ∀ j, j < cs.length → w.frozen? ⟨p.1, p.2 + j, none⟩ = false) (hc : ∀ j c, cs[j]? = some c → w.cell? ⟨p.1, p.2 + j, none⟩ = some (c.den e)) : Hp C (addEnv σ e p m) (look (Sx.addRo σ t cs)) w := by
  have hA := addRo_agree (e := e) (p := p) (m := m) h1 h2
  have hS := addRo_sub σ t cs
  have kold : ∀ id, id ≠ σ.nx → look (Sx.addRo σ t cs) (.k id) = look σ (.k id) := fun id hid => by
    simp only [look, Sx.addRo, alook]
    rw [beq_ff.2 (Ne.symm hid)]
  have cold : ∀ id off, id ≠ σ.nx → look (Sx.addRo σ t cs) (.c id off) = look σ (.c id off) := fun id off hid => by
    simp only [look, Sx.addRo, alook]
    rw [beq_ff.2 (Ne.symm hid)]
  have knew : look (Sx.addRo σ t cs) (.k σ.nx) = some (.bk (.ar t false cs.length none)) := by
    simp only [look, Sx.addRo, alook, Nat.beq_refl]; rfl
  have cnew : ∀ off, look (Sx.addRo σ t cs) (.c σ.nx off) = (cs[off]?).map .cv := fun off => by
    simp only [look, Sx.addRo, alook, Nat.beq_refl]; rfl
  have ad : ∀ id off, id ≠ σ.nx → (addEnv σ e p m).ad id off = e.ad id off := fun id off hid => by
    unfold Env.ad; show (⟨(if id = σ.nx then p else e.pl id).1, _, none⟩ : Addr) = _
    simp only [addEnv, if_neg hid]
  have pl : ∀ id, id ≠ σ.nx → (addEnv σ e p m).pl id = e.pl id := fun id hid => if_neg hid
  have pln : (addEnv σ e p m).pl σ.nx = p := if_pos rfl
  refine ⟨h.new, ?_, ?_, ?_, ?_, ?_, ?_, ?_, h.pin.mono hA hS, h.fr⟩
  · intro id off v hv
    by_cases hid : id = σ.nx
    · subst hid
      rw [cnew] at hv
      obtain ⟨c, hc1, hc2⟩ := Option.map_eq_some_iff.1 hv
      obtain rfl : c = v := by simpa using hc2
      have hfc := List.all_eq_true.1 hf c (List.mem_of_getElem? hc1)
      refine ⟨Cv.free_sc hfc _, ⟨t, false, cs.length, none, knew, (List.getElem?_eq_some_iff.1 hc1).1⟩, ?_⟩
      have := hc off c hc1
      rw [Cv.den_agree (s := look σ) hA (Cv.free_sc hfc _)]
      unfold Env.ad
      rw [pln]
      exact this
    · rw [cold id off hid] at hv
      obtain ⟨q1, ⟨t', ro, n, cp, q2, q3⟩, q4⟩ := h.cl id off v hv
      refine ⟨q1.sub hS, ⟨t', ro, n, cp, by rw [kold id hid]; exact q2, q3⟩, ?_⟩
      rw [ad id off hid, Cv.den_agree hA q1]
      exact q4
  · intro id t' n cp hb off ho
    by_cases hid : id = σ.nx
    · subst hid
      rw [knew] at hb
      obtain ⟨rfl, rfl, rfl⟩ : t = t' ∧ cs.length = n ∧ none = cp := by simpa using hb
      unfold Env.ad
      rw [pln]
      refine ⟨hfz off ho, ?_⟩
      rw [hc off cs[off] (List.getElem?_eq_getElem ho)]
      rfl
    · rw [kold id hid] at hb
      rw [ad id off hid]
      exact h.ar id t' n cp hb off ho
  · intro id t' ro n f cp hb off ho
    by_cases hid : id = σ.nx
    · subst hid; rw [knew] at hb; cases hb
    · rw [kold id hid] at hb
      rw [ad id off hid]
      exact h.oq id t' ro n f cp hb off ho
  · intro id b c es hb hcp
    by_cases hid : id = σ.nx
    · subst hid
      rw [knew] at hb
      obtain rfl : BI.ar t false cs.length none = b := by simpa using hb
      cases hcp
    · rw [kold id hid] at hb
      obtain ⟨q1, q2, cs', q3, q4, q5⟩ := h.cp id b c es hb hcp
      refine ⟨hS.2 c q1, by rw [pl id hid]; exact q2, cs', by rw [pl id hid]; exact q3, by rw [q4, hA.2 c q1], q5⟩
  · intro id id' b b' hb hb' hr hl hne
    by_cases hid : id = σ.nx
    · subst hid
      rw [knew] at hb
      rw [pln]
      have hid' : id' ≠ σ.nx := Ne.symm hne
      rw [kold id' hid'] at hb'
      rw [pl id' hid']
      exact (hnew id' b' hb' hl).symm
    · rw [kold id hid] at hb
      rw [pl id hid]
      by_cases hid' : id' = σ.nx
      · subst hid'
        rw [pln]
        exact hnew id b hb (by cases b <;> first | rfl | cases hr)
      · rw [kold id' hid'] at hb'
        rw [pl id' hid']
        exact h.inj id id' b b' hb hb' hr hl hne
  · intro id b hb hl
    by_cases hid : id = σ.nx
    · subst hid; rw [pln]; exact hp
    · rw [kold id hid] at hb
      rw [pl id hid]
      exact h.lt id b hb hl
  · intro id b hb hr
    by_cases hid : id = σ.nx
    · subst hid
      rw [knew] at hb
      rw [pln]
      exact hM
    · rw [kold id hid] at hb
      rw [pl id hid]
      exact h.mu id b hb hr

/-! A row that is handed back. -/
def intsL : List Cv → Option (List Int)
  | [] => some []
  | .i .i64 n _ :: cs => match intsL cs with
    | some xs => some (n :: xs)
    | none => none
  | _ => none
theorem intsL_at : ∀ {cs : List Cv} {xs : List Int}, intsL cs = some xs → cs.length = xs.length ∧ ∀ j, j < xs.length → ∃ l, cs[j]? = some (.i .i64 (xs.getD j 0) l)
  | [], xs, h => by obtain rfl := Option.some.inj h; exact ⟨rfl, fun j hj => by cases hj⟩
  | .i .i64 n l :: cs, xs, h => by
    simp only [intsL] at h
    split at h
    · rename_i ys hy
      obtain rfl := Option.some.inj h
      obtain ⟨k1, k2⟩ := intsL_at hy
      refine ⟨by simp [k1], fun j hj => ?_⟩
      cases j with
      | zero => exact ⟨l, rfl⟩
      | succ j =>
        obtain ⟨l', hl'⟩ := k2 j (by simpa using hj)
        exact ⟨l', by simpa using hl'⟩
    · cases h
def rowOf (y : FLeaf) : Option (List Int) := match y.1 with
  | .one (.slc id (.lit 0) (.lit k) _) => match alook y.2.bk id with
    | some (.ar _ false cs _) => match Nat.ble k cs.length && Nat.ble 1 k with
      | true => intsL (cs.take k)
      | false => none
    | _ => none
  | .one (.val (.slice none 0 0)) => some []
  | _ => none
def rdR : Tree FLeaf → Option (List Int)
  | .leaf y => rowOf y
  | .must b t => bif b then rdR t else none
  | .br b t f => bif b then rdR t else rdR f
  | .fail => none
theorem rdR_at : ∀ {T : Tree FLeaf} {xs : List Int}, rdR T = some xs → ∃ y, T.At y ∧ rowOf y = some xs
  | .leaf y, xs, h => ⟨y, rfl, h⟩
  | .must b t, xs, h => by
    cases b with
    | true => obtain ⟨y, h1, h2⟩ := rdR_at (T := t) h; exact ⟨y, ⟨rfl, h1⟩, h2⟩
    | false => cases h
  | .br b t f, xs, h => by
    cases b with
    | true => obtain ⟨y, h1, h2⟩ := rdR_at (T := t) h; exact ⟨y, Or.inl ⟨rfl, h1⟩, h2⟩
    | false => obtain ⟨y, h1, h2⟩ := rdR_at (T := f) h; exact ⟨y, Or.inr ⟨rfl, h1⟩, h2⟩
/-- A new row of numbers, in memory that was not there before. -/
def NewRow (w w' : World) (v : Value) (xs : List Int) : Prop := (xs = [] ∧ v = .slice none 0 0) ∨ (xs ≠ [] ∧ ∃ b off c, v = .slice (some ⟨b, off, none⟩) xs.length c ∧ w.heap.size ≤ b ∧ b < w'.heap.size ∧ ∀ k, k < xs.length → w'.cell? ⟨b, off + k, none⟩ = some (.int .i64 (xs.getD k 0)) ∧ w'.frozen? ⟨b, off + k, none⟩ = false)
theorem row_any {f : FuncId} {args : List Sv} {y : FLeaf} {xs : List Int} (h : FunOk P f args st0 y.1 y.2) (hr : rowOf y = some xs) (hargs : ∀ x ∈ args, x.freeB = true) (e : Env) (w : World) (hG : Glob0 w := by exact glob0 w) :
    Calls P f (args.map (·.den e)).toArray w fun en w' => ∃ v, en = .returned v ∧ NewRow w w' v xs ∧ Below w.heap.size w w' := by
  have he : args.map (·.den e) = args.map (·.den env0) := List.map_congr_left fun x hx => Sv.free_den (hargs x hx) env0 e
  rw [he]
  refine (h.run (ctx0 w) env0 w (hp0 w hG) fun x hx => Sv.free_sc (hargs x hx) _).mono fun en w' => ?_
  rintro ⟨e', -, hp, rfl, -⟩
  refine ⟨_, rfl, ?_, hp.fr.os, hp.fr.tape, hp.fr.output, hp.fr.size, fun k hk => hp.fr.block k hk (show ¬ w.heap.size ≤ k by omega)⟩
  unfold rowOf at hr
  split at hr
  · rename_i id k cap hv
    split at hr
    · rename_i t cs cp hb
      split at hr
      · rename_i hle
        simp only [Bool.and_eq_true, Nat.ble_eq] at hle
        obtain ⟨hle, hle1⟩ := hle
        obtain ⟨k1, k2⟩ := intsL_at hr
        have hk : xs.length = k := by rw [← k1, List.length_take]; omega
        have hkk : look y.2 (.k id) = some (.bk (.ar t false cs.length cp)) := by simp only [look, hb]; rfl
        rw [hv]
        refine Or.inr ⟨fun e => by rw [e] at hk; simp at hk; omega, (e'.pl id).1, (e'.pl id).2, cap.den e', ?_, hp.mu id _ hkk rfl, hp.lt id _ hkk rfl, fun j hj => ?_⟩
        · rw [hk]; rfl
        · obtain ⟨l, hl⟩ := k2 j hj
          have hj2 : j < k := by omega
          rw [List.getElem?_take_of_lt hj2] at hl
          have := (hp.cl id j (.i .i64 (xs.getD j 0) l) (by simp only [look, hb, Option.bind_some, Blk.cell, hl]; rfl)).2.2
          exact ⟨this, (hp.ar id t cs.length cp hkk j (by omega)).1⟩
      · cases hr
    · cases hr
  · rename_i hv
    obtain rfl : [] = xs := by simpa using hr
    rw [hv]
    exact Or.inl ⟨rfl, rfl⟩
  · cases hr
/-- The row, in a state of the caller. -/
def rowSv (σ : St) : List Int → Sv
  | [] => .one (.val (.slice none 0 0))
  | x :: xs => .one (.slc σ.nx (.lit 0) (.lit (xs.length + 1)) (.nam σ.nn))
def rowSt (σ : St) (t : TypeId) : List Int → St
  | [] => σ
  | x :: xs => addRo σ t ((x :: xs).map fun n => .i .i64 n false)
theorem row_fun {f : FuncId} {args : List Sv} {σ : St} {xs : List Int} {t : TypeId} (h1 : alook σ.bk σ.nx = none) (h2 : memb σ.nl σ.nn = false) (h : ∀ (e : Env) (w : World), Calls P f (args.map (·.den e)).toArray w fun en w' => ∃ v, en = .returned v ∧ NewRow w w' v xs ∧ Below w.heap.size w w') :
    FunOk P f args σ (rowSv σ xs) (rowSt σ t xs) := by
  refine ⟨fun C e w hp _ => ?_, fun id off hk _ => ?_⟩
  case refine_2 =>
    cases xs with
    | nil => rfl
    | cons x xs =>
      have hne : id ≠ σ.nx := fun e => by rw [kn_look, e, h1] at hk; cases hk
      simp only [rowSt, Sx.addRo, look, alook]
      rw [beq_ff.2 (Ne.symm hne)]
  refine (h e w).mono fun en w' => ?_
  rintro ⟨v, rfl, hN, hb⟩
  cases xs with
  | nil =>
    rcases hN with ⟨_, rfl⟩ | ⟨h0, _⟩
    · exact ⟨e, Agree.refl _ _, hp.keep hb, rfl, trivial⟩
    · exact absurd rfl h0
  | cons x xs =>
    rcases hN with ⟨h0, _⟩ | ⟨-, b, off, c, rfl, hlo, hhi, hcell⟩
    · cases h0
    · refine ⟨addEnv σ e (b, off) c, addRo_agree h1 h2, (hp.keep hb).addRo h1 h2 (by simp [List.all_eq_true, Cv.freeB]) hhi (fun id bi hbi hl => ?_) (hp.new b (Nat.le_trans hp.fr.size hlo)) (fun j hj => (hcell j (by simpa using hj)).2) (fun j cv hj => ?_), ?_, ?_⟩
      · have := hp.lt id bi hbi hl
        show (e.pl id).1 ≠ b
        omega
      · rw [List.getElem?_map] at hj
        obtain ⟨n, hn, rfl⟩ := Option.map_eq_some_iff.1 hj
        have hlt := (List.getElem?_eq_some_iff.1 hn).1
        have := (hcell j hlt).1
        rw [List.getD_eq_getElem?_getD, hn] at this
        exact this
      · show Ending.returned _ = Ending.returned (Value.slice (some ((addEnv σ e (b, off) c).ad σ.nx 0)) (xs.length + 1) ((addEnv σ e (b, off) c).nm σ.nn))
        have e1 : (addEnv σ e (b, off) c).pl σ.nx = (b, off) := if_pos rfl
        have e2 : (addEnv σ e (b, off) c).nm σ.nn = c := if_pos rfl
        unfold Env.ad
        rw [e1, e2]
        rfl
      · refine ⟨?_, trivial, trivial, ?_⟩
        · rw [kn_look]; simp [rowSt, Sx.addRo, alook]
        · show knn _ _
          rw [knn_look]; simp [rowSt, Sx.addRo, memb]
end
end Sx
end Go.Proofs.YtdelgbdiofkndaaGreatDoor

/-
  Loops: one round from a state in names, and what it leaves.
-/
set_option linter.unusedSimpArgs false
set_option linter.unusedVariables false
namespace Go.Proofs.YtdelgbdiofkndaaGreatDoor
namespace Sx
open Go.RowKit

section
variable {P : Program} {tb : Tb}
/-- A place that changes from round to round. -/
inductive Pl where
  | t (n : Nat)
  | c (id off : Nat)
def Pl.w : Pl → Cv → Wr
  | .t n, v => .tm n (.one v)
  | .c id off, v => .cell id off v
def Pl.loc : Pl → Loc
  | .t n => .t n
  | .c id off => .c id off
def Pl.lv : Pl → Cv → LV
  | .t _, v => .sv (.one v)
  | .c _ _, v => .cv v
def Pl.rd (σ : St) : Pl → Option Cv
  | .t n => match alook σ.tm n with
    | some (.one z) => some z
    | _ => none
  | .c id off => (alook σ.bk id).bind fun b => b.cell off
def Lf.fits : Lf → Cv → Bool
  | .b, .b _ _ => true
  | .i k, .i k' _ _ => decide (k = k')
  | _, _ => false
def cvB : Cv → Bool
  | .b v _ => v
  | _ => false
def cvI : Cv → Int
  | .i _ n _ => n
  | _ => 0
abbrev Dom := List (Pl × Lf)
def putW (bs : Nat → Bool) (ns : Nat → Int) : Nat → Dom → List Wr
  | _, [] => []
  | j, (p, l) :: ps => p.w (l.cv bs ns j) :: putW bs ns (j + 1) ps
def domHas (d : Dom) (l : Loc) : Bool := d.any fun p => match p.1, l with
  | .t n, .t m => Nat.beq n m
  | .c id off, .c i o => Nat.beq id i && Nat.beq off o
  | _, _ => false
/-- A write that keeps what else is known. -/
def okWr (d : Dom) (σ0 : St) : Wr → Bool
  | .tm n _ => domHas d (.t n) || (alook σ0.tm n).isNone
  | .ft n => domHas d (.t n) || (alook σ0.tm n).isNone
  | .cell id off _ => domHas d (.c id off) || (alook σ0.bk id).isNone
  | .new id _ => (alook σ0.bk id).isNone
  | .nm c => !memb σ0.nl c
def rdB' (d : Dom) (σ : St) (j : Nat) : Bool := match d[j]? with
  | some (p, _) => match p.rd σ with
    | some c => cvB c
    | none => false
  | none => false
def rdI' (d : Dom) (σ : St) (j : Nat) : Int := match d[j]? with
  | some (p, _) => match p.rd σ with
    | some c => cvI c
    | none => 0
  | none => 0
def okStep (d : Dom) (σ0 I y : St) : Bool := (d.all fun p => match p.1.rd y with
    | some c => p.2.fits c
    | none => false) && (newL I y).all (okWr d σ0)
noncomputable instance : DecidableEq Loc := fun _ _ => Classical.propDecidable _
theorem Pl.w_fn (p : Pl) (v : Cv) (l : Loc) : (p.w v).fn l = if p.loc = l then some (some (p.lv v)) else none := by
  cases p with
  | t n =>
    cases l with
    | t m =>
      by_cases e : m = n
      · subst e; simp [Pl.w, Wr.fn, Pl.loc, Pl.lv]
      · simp [Pl.w, Wr.fn, Pl.loc, e, Ne.symm e]
    | _ => simp [Pl.w, Wr.fn, Pl.loc]
  | c id off =>
    cases l with
    | c i o =>
      by_cases e : i = id ∧ o = off
      · obtain ⟨rfl, rfl⟩ := e; simp [Pl.w, Wr.fn, Pl.loc, Pl.lv]
      · have e' : ¬ (id = i ∧ off = o) := fun h => e ⟨h.1.symm, h.2.symm⟩
        simp [Pl.w, Wr.fn, Pl.loc, e, e']
    | _ => simp [Pl.w, Wr.fn, Pl.loc]
theorem domHas_iff {d : Dom} {l : Loc} (h : ∃ p : Pl × Lf, p ∈ d ∧ p.1.loc = l) : domHas d l = true := by
  obtain ⟨⟨p, lf⟩, hp, rfl⟩ := h
  refine List.any_eq_true.2 ⟨_, hp, ?_⟩
  cases p <;> simp [Pl.loc]
theorem domHas_of {d : Dom} {l : Loc} (h : domHas d l = true) : ∃ p : Pl × Lf, p ∈ d ∧ p.1.loc = l := by
  obtain ⟨⟨p, lf⟩, hp, h2⟩ := List.any_eq_true.1 h
  refine ⟨_, hp, ?_⟩
  cases p <;> cases l <;> simp only [Bool.and_eq_true] at h2 <;> first
    | cases h2; done
    | (rw [Pl.loc, beq_iff'.1 h2])
    | (rw [Pl.loc, beq_iff'.1 h2.1, beq_iff'.1 h2.2])
theorem fns_put (bs : Nat → Bool) (ns : Nat → Int) (l : Loc) : ∀ (d : Dom) (j : Nat), (fns (putW bs ns j d) l = none ∧ ∀ p : Pl × Lf, p ∈ d → p.1.loc ≠ l) ∨ ∃ (i : Nat) (p : Pl) (lf : Lf), d[i]? = some (p, lf) ∧ p.loc = l ∧ fns (putW bs ns j d) l = some (some (p.lv (lf.cv bs ns (j + i))))
  | [], j => Or.inl ⟨rfl, fun p hp => by cases hp⟩
  | (p, lf) :: d, j => by
    rcases fns_put bs ns l d (j + 1) with ⟨h1, h2⟩ | ⟨i, q, lf', h1, h2, h3⟩
    · by_cases e : p.loc = l
      · refine Or.inr ⟨0, p, lf, rfl, e, ?_⟩
        simp only [putW, fns, h1, Pl.w_fn, if_pos e, Nat.add_zero]
      · refine Or.inl ⟨?_, fun q hq => ?_⟩
        · simp only [putW, fns, h1, Pl.w_fn, if_neg e]
        · cases hq with
          | head => exact e
          | tail _ hq => exact h2 q hq
    · refine Or.inr ⟨i + 1, q, lf', by simpa using h1, h2, ?_⟩
      simp only [putW, fns, h3]
      rw [show j + 1 + i = j + (i + 1) by omega]
theorem put_other {bs : Nat → Bool} {ns : Nat → Int} {d : Dom} {s : Sto} {l : Loc} (h : ∀ p : Pl × Lf, p ∈ d → p.1.loc ≠ l) : upds s (putW bs ns 0 d) l = s l := by
  rw [upds_fns]
  rcases fns_put bs ns l d 0 with ⟨h1, _⟩ | ⟨i, p, lf, h1, h2, _⟩
  · simp only [h1, Option.getD_none]
  · exact absurd h2 (h _ (List.mem_of_getElem? h1))
theorem put_at {bs : Nat → Bool} {ns : Nat → Int} {d : Dom} {s : Sto} {l : Loc} (h : ∃ p : Pl × Lf, p ∈ d ∧ p.1.loc = l) : ∃ (i : Nat) (p : Pl) (lf : Lf), d[i]? = some (p, lf) ∧ p.loc = l ∧ upds s (putW bs ns 0 d) l = some (p.lv (lf.cv bs ns i)) := by
  rw [upds_fns]
  rcases fns_put bs ns l d 0 with ⟨_, h2⟩ | ⟨i, p, lf, h1, h2, h3⟩
  · obtain ⟨p, hp, e⟩ := h; exact absurd e (h2 p hp)
  · exact ⟨i, p, lf, h1, h2, by dsimp only; rw [h3, Nat.zero_add]; rfl⟩
theorem Pl.ne_k (p : Pl) (id : Nat) : p.loc ≠ .k id := by cases p <;> simp [Pl.loc]
theorem Pl.ne_n (p : Pl) (c : Nat) : p.loc ≠ .n c := by cases p <;> simp [Pl.loc]
theorem Pl.rd_look {σ : St} {p : Pl} {c : Cv} (h : p.rd σ = some c) : look σ p.loc = some (p.lv c) := by
  cases p with
  | t n =>
    simp only [Pl.rd] at h
    split at h
    · rename_i c' hc
      obtain rfl := Option.some.inj h
      simp only [Pl.loc, look, hc]; rfl
    · cases h
  | c id off =>
    simp only [Pl.rd] at h
    obtain ⟨b, hb, hc⟩ := Option.bind_eq_some_iff.1 h
    simp only [Pl.loc, look, hb, Option.bind_some, hc]; rfl
theorem fits_den {l : Lf} {c : Cv} (h : l.fits c = true) {bs : Nat → Bool} {ns : Nat → Int} {j : Nat} (hb : bs j = cvB c) (hn : ns j = cvI c) (e : Env) : (l.cv bs ns j).den e = c.den e := by
  cases l with
  | b => cases c with
    | b v fl => show Value.bool (bs j) = Value.bool v; rw [hb]; rfl
    | _ => cases h
  | i k => cases c with
    | i k' n fl =>
      obtain rfl : k = k' := by simpa [Lf.fits] using h
      show Value.int k (ns j) = Value.int k n
      rw [hn]; rfl
    | _ => cases h
theorem Lf.cv_sc (l : Lf) (bs : Nat → Bool) (ns : Nat → Int) (j : Nat) (s : Sto) : (l.cv bs ns j).sc s := by cases l <;> trivial
/-- What a round leaves is again such a state, with other names. -/
theorem round_rel {C : Ctx} {N : Nat} {e0 e : Env} {a0 a : Act} {w0 w : World} {d : Dom} {σ0 I y : St} {bs : Nat → Bool} {ns : Nat → Int} (hI : look I = upds (look σ0) (putW bs ns 0 d)) (hx : Ext I y) (ok : okStep d σ0 I y = true)
    (hR0 : Rel C N e0 (look I) a0 w0) (hR : Rel C N e (look y) a w) : Rel C N e (upds (look σ0) (putW (rdB' d y) (rdI' d y) 0 d)) a w := by
  obtain ⟨o1, o2⟩ := Bool.and_eq_true_iff.1 ok
  obtain ⟨ws, hw, hl⟩ := newL_ext hx
  have hlook := look_apps hw
  have hws := hR0.ws
  -- what is not written
  have keep : ∀ l v, look σ0 l = some v → (∀ p : Pl × Lf, p ∈ d → p.1.loc ≠ l) → look y l = some v := by
    intro l v hv hd
    have hnd : domHas d l = false := by
      cases hc : domHas d l with
      | false => rfl
      | true => obtain ⟨p, hp, e⟩ := domHas_of hc; exact absurd e (hd p hp)
    rw [hlook, upds_fns]
    have hno : fns ws l = none := by
      cases hf : fns ws l with
      | none => rfl
      | some z =>
        exfalso
        obtain ⟨x, hx1, hx2⟩ := fns_some (l := l) (ws := ws) (by rw [hf]; rfl)
        have hok := List.all_eq_true.1 o2 x (by rw [hl]; exact List.mem_reverse.2 hx1)
        cases x with
        | tm n v' =>
          cases l with
          | t m =>
            obtain rfl : m = n := by simp only [Wr.fn] at hx2; split at hx2; assumption; cases hx2
            simp only [okWr, hnd, Bool.false_or, Option.isNone_iff_eq_none] at hok
            simp only [look, hok] at hv; cases hv
          | _ => cases hx2
        | ft n =>
          cases l with
          | t m =>
            obtain rfl : m = n := by simp only [Wr.fn] at hx2; split at hx2; assumption; cases hx2
            simp only [okWr, hnd, Bool.false_or, Option.isNone_iff_eq_none] at hok
            simp only [look, hok] at hv; cases hv
          | _ => cases hx2
        | cell id off v' =>
          cases l with
          | c i o =>
            obtain ⟨rfl, rfl⟩ : i = id ∧ o = off := by simp only [Wr.fn] at hx2; split at hx2; assumption; cases hx2
            simp only [okWr, hnd, Bool.false_or, Option.isNone_iff_eq_none] at hok
            simp only [look, hok] at hv; cases hv
          | _ => cases hx2
        | new id b =>
          simp only [okWr, Option.isNone_iff_eq_none] at hok
          cases l with
          | k i =>
            obtain rfl : i = id := by simp only [Wr.fn] at hx2; split at hx2; assumption; cases hx2
            simp only [look, hok] at hv; cases hv
          | c i o =>
            obtain rfl : i = id := by simp only [Wr.fn] at hx2; split at hx2; assumption; cases hx2
            simp only [look, hok] at hv; cases hv
          | _ => cases hx2
        | nm c =>
          cases l with
          | n d' =>
            obtain rfl : d' = c := by simp only [Wr.fn] at hx2; split at hx2; assumption; cases hx2
            simp only [okWr, Bool.not_eq_true'] at hok
            simp only [look, hok] at hv; cases hv
          | _ => cases hx2
    dsimp only
    rw [hno, Option.getD_none, hI, put_other hd, hv]
  have ik : ∀ id, look I (.k id) = look σ0 (.k id) := fun id => by rw [hI]; exact put_other fun p _ => p.1.ne_k id
  have i2 : ∀ id, upds (look σ0) (putW (rdB' d y) (rdI' d y) 0 d) (.k id) = look σ0 (.k id) := fun id => put_other fun p _ => p.1.ne_k id
  have n1 : ∀ c, look I (.n c) = look σ0 (.n c) := fun c => by rw [hI]; exact put_other fun p _ => p.1.ne_n c
  have n2 : ∀ c, upds (look σ0) (putW (rdB' d y) (rdI' d y) 0 d) (.n c) = look σ0 (.n c) := fun c => put_other fun p _ => p.1.ne_n c
  have hS : Sub (look I) (upds (look σ0) (putW (rdB' d y) (rdI' d y) 0 d)) := ⟨fun id h => by unfold kn at h ⊢; rw [i2, ← ik]; exact h, fun c h => by unfold knn at h ⊢; rw [n2, ← n1]; exact h⟩
  -- what is read
  have dom : ∀ l, (∃ p : Pl × Lf, p ∈ d ∧ p.1.loc = l) → ∃ p : Pl, ∃ lf : Lf, ∃ i c, p.loc = l ∧ upds (look σ0) (putW (rdB' d y) (rdI' d y) 0 d) l = some (p.lv (lf.cv (rdB' d y) (rdI' d y) i)) ∧ look y l = some (p.lv c) ∧ ∀ e, (lf.cv (rdB' d y) (rdI' d y) i).den e = c.den e := by
    intro l hl'
    obtain ⟨i, p, lf, h1, h2, h3⟩ := put_at (bs := rdB' d y) (ns := rdI' d y) (s := look σ0) hl'
    have hp := List.all_eq_true.1 o1 _ (List.mem_of_getElem? h1)
    simp only [] at hp
    cases hc : p.rd y with
    | none => rw [hc] at hp; cases hp
    | some c =>
      rw [hc] at hp
      refine ⟨p, lf, i, c, h2, h3, by rw [← h2]; exact Pl.rd_look hc, fun e => fits_den hp ?_ ?_ e⟩
      · simp only [rdB', h1, hc]
      · simp only [rdI', h1, hc]
  refine hR.wk ⟨?_, ?_, ?_, ?_⟩ ⟨fun id p hp => hS.1 id (hR0.hp.pin.1 id p hp).2, fun c m hm => hS.2 c (hR0.hp.pin.2 c m hm).2⟩
  · intro t v hv
    by_cases hd : ∃ p : Pl × Lf, p ∈ d ∧ p.1.loc = .t t
    · obtain ⟨p, lf, i, c, h1, h2, h3, h4⟩ := dom _ hd
      rw [h2] at hv
      cases p with
      | t n =>
        obtain rfl : Sv.one (lf.cv (rdB' d y) (rdI' d y) i) = v := by simpa [Pl.lv] using hv
        exact ⟨⟨.one c, h3, h4⟩, lf.cv_sc _ _ _ _⟩
      | c id off => cases h1
    · have hd' : ∀ p : Pl × Lf, p ∈ d → p.1.loc ≠ .t t := fun p hp e => hd ⟨p, hp, e⟩
      rw [put_other hd'] at hv
      exact ⟨⟨v, keep _ _ hv hd', fun _ => rfl⟩, (hws.tm t v (by rw [hI, put_other hd']; exact hv)).sub hS⟩
  · intro id off v hv
    by_cases hd : ∃ p : Pl × Lf, p ∈ d ∧ p.1.loc = .c id off
    · obtain ⟨p, lf, i, c, h1, h2, h3, h4⟩ := dom _ hd
      rw [h2] at hv
      cases p with
      | t n => cases h1
      | c id' off' =>
        obtain rfl : lf.cv (rdB' d y) (rdI' d y) i = v := by simpa [Pl.lv] using hv
        refine ⟨⟨c, h3, h4⟩, lf.cv_sc _ _ _ _, ?_⟩
        obtain ⟨i', p', lf', g1, g2, g3⟩ := put_at (bs := bs) (ns := ns) (s := look σ0) hd
        cases p' with
        | t n => cases g2
        | c id'' off'' =>
          obtain ⟨_, t, ro, n, cp, q1, q2⟩ := hws.cl id off _ (by rw [hI]; exact g3)
          exact ⟨t, ro, n, cp, by rw [i2, ← ik]; exact q1, q2⟩
    · have hd' : ∀ p : Pl × Lf, p ∈ d → p.1.loc ≠ .c id off := fun p hp e => hd ⟨p, hp, e⟩
      rw [put_other hd'] at hv
      obtain ⟨q1, t, ro, n, cp, q2, q3⟩ := hws.cl id off v (by rw [hI, put_other hd']; exact hv)
      exact ⟨⟨v, keep _ _ hv hd', fun _ => rfl⟩, q1.sub hS, t, ro, n, cp, by rw [i2, ← ik]; exact q2, q3⟩
  · intro id b hb _
    rw [i2] at hb
    exact keep _ _ hb fun p _ => p.1.ne_k id
  · intro id b c es hb hc
    rw [i2, ← ik] at hb
    exact hS.2 c (hws.cp id b c es hb hc)
/-- A loop: every round leaves such a state again, or goes out. -/
theorem loop_ok {wf : List FuncId} {call : CallF} (hT : TbOk P tb) (hm : P.follows .mixedOrders = true) (hc : CallFOk P call) {N fuel : Nat} {body : Code} (d : Dom) (σ0 : St) (I : (Nat → Bool) → (Nat → Int) → St) (hI : ∀ bs ns, look (I bs ns) = upds (look σ0) (putW bs ns 0 d))
    (inv : (Nat → Bool) → (Nat → Int) → Prop) (μ : (Nat → Int) → Nat) (E : Leaf → Prop)
    (hstep : ∀ bs ns, inv bs ns → ∃ y, (evC tb wf call N [] fuel body (I bs ns)).At y ∧ ((y.1 = .normal ∧ okStep d σ0 (I bs ns) y.2 = true ∧ inv (rdB' d y.2) (rdI' d y.2) ∧ μ (rdI' d y.2) < μ ns) ∨ ((∃ i, y.1 = .exit i) ∨ y.1 = .ret) ∧ E y))
    {C : Ctx} {Q : Exit → Act → World → Prop} (hQ : ∀ y, E y → ∀ e a w, Rel C N e (look y.2) a w → Post P Q y.1 a w) :
    ∀ (n : Nat) bs ns, inv bs ns → μ ns < n → ∀ e a w, Rel C N e (look (I bs ns)) a w → Code.rounds P body Q n a w
  | 0, _, _, _, h, _, _, _, _ => by omega
  | n + 1, bs, ns, hi, hμ, e, a, w, hR => by
    obtain ⟨y, h1, h2⟩ := hstep bs ns hi
    show body.wp P (Exit.then (Code.rounds P body Q n) Q) a w
    refine evC_ok hT hm hc fuel body (I bs ns) y h1 C e a w _ hR fun e' a' w' hR' => ?_
    rcases h2 with ⟨ho, k1, k2, k3⟩ | ⟨ho, k1⟩
    · rw [ho]
      show Code.rounds P body Q n a' w'
      have hr := round_rel (hI bs ns) (evC_every.at_ h1) k1 hR hR'
      rw [← hI] at hr
      exact loop_ok hT hm hc d σ0 I hI inv μ E hstep hQ n _ _ k2 (by omega) e' a' w' hr
    · have := hQ y k1 e' a' w' hR'
      rcases ho with ⟨i, ho⟩ | ho
      · rw [ho] at this ⊢; exact this
      · rw [ho] at this ⊢; exact this
end
end Sx
end Go.Proofs.YtdelgbdiofkndaaGreatDoor

/-
  What stands behind a loop; a function with a loop.
-/
set_option linter.unusedSimpArgs false
set_option linter.unusedVariables false
namespace Go.Proofs.YtdelgbdiofkndaaGreatDoor
namespace Sx
open Go.RowKit

section
variable {P : Program} {tb : Tb}
/-- What was still to be done. -/
def evK (tb : Tb) (wf : List FuncId) (call : CallF) (N fuel : Nat) : List It → Leaf → Tree Leaf
  | [], x => match x.1 with
    | .stop _ => .fail
    | _ => .leaf x
  | .code c :: k, x => match x.1 with
    | .normal => (evC tb wf call N [] fuel c x.2).bind (evK tb wf call N fuel k)
    | .stop _ => .fail
    | _ => evK tb wf call N fuel k x
  | .blk id :: k, x => match x.1 with
    | .exit i => match Nat.beq i id with
      | true => evK tb wf call N fuel k (.normal, x.2)
      | false => evK tb wf call N fuel k x
    | .stop _ => .fail
    | _ => evK tb wf call N fuel k x
def outE : Out → Exit
  | .normal => .normal
  | .exit i => .exit i
  | .ret => .ret
  | .stop _ => .normal
theorem evK_stop {wf : List FuncId} {call : CallF} {N fuel : Nat} {l : List It} {σ : St} {y : Leaf} : ∀ {k : List It}, (evK tb wf call N fuel k (.stop l, σ)).At y → False
  | [], h => h
  | .code _ :: _, h => h
  | .blk _ :: _, h => h
theorem evK_ok {wf : List FuncId} {call : CallF} (hT : TbOk P tb) (hm : P.follows .mixedOrders = true) (hc : CallFOk P call) {N fuel : Nat} {C : Ctx} {Q : Exit → Act → World → Prop} : ∀ (k : List It) (o : Out) (σ : St) (y : Leaf), (evK tb wf call N fuel k (o, σ)).At y → (∀ e a w, Rel C N e (look y.2) a w → Post P Q y.1 a w) →
    ∀ e a w, Rel C N e (look σ) a w → stackPost P Q k (outE o) a w
  | [], o, σ, y, h, hQ, e, a, w, hR => by
    cases o with
    | stop l => exact (evK_stop h).elim
    | normal => obtain rfl : (Out.normal, σ) = y := h; exact hQ e a w hR
    | exit i => obtain rfl : (Out.exit i, σ) = y := h; exact hQ e a w hR
    | ret => obtain rfl : (Out.ret, σ) = y := h; exact hQ e a w hR
  | .code c :: k, o, σ, y, h, hQ, e, a, w, hR => by
    cases o with
    | normal =>
      obtain ⟨z, h1, h2⟩ := Tree.At_bind.1 (show (Tree.bind _ _).At y from h)
      show c.wp P (stackPost P Q k) a w
      refine evC_ok hT hm hc fuel c σ z h1 C e a w _ hR fun e' a' w' hR' => ?_
      obtain ⟨o', σ'⟩ := z
      have ih := evK_ok hT hm hc k o' σ' y h2 hQ e' a' w' hR'
      cases o' with
      | stop l => exact (evK_stop h2).elim
      | normal => exact ih
      | exit i => exact ih
      | ret => exact ih
    | exit i => exact evK_ok hT hm hc k (.exit i) σ y h hQ e a w hR
    | ret => exact evK_ok hT hm hc k .ret σ y h hQ e a w hR
    | stop l => exact (evK_stop h).elim
  | .blk id :: k, o, σ, y, h, hQ, e, a, w, hR => by
    cases o with
    | normal => exact evK_ok hT hm hc k .normal σ y h hQ e a w hR
    | exit i =>
      simp only [evK] at h
      show (if i = id then stackPost P Q k .normal a w else stackPost P Q k (.exit i) a w)
      split at h
      · rename_i hb
        rw [if_pos (beq_iff'.1 hb)]
        exact evK_ok hT hm hc k .normal σ y h hQ e a w hR
      · rename_i hb
        rw [if_neg (beq_ff.1 hb)]
        exact evK_ok hT hm hc k (.exit i) σ y h hQ e a w hR
    | ret => exact evK_ok hT hm hc k .ret σ y h hQ e a w hR
    | stop l => exact (evK_stop h).elim
/-- Ahead of the first round: the changing places are read. -/
theorem init_rel {C : Ctx} {N : Nat} {e : Env} {a : Act} {w : World} {d : Dom} {σ : St} (ok : (d.all fun p => match p.1.rd σ with
    | some c => p.2.fits c
    | none => false) = true) (hR : Rel C N e (look σ) a w) : Rel C N e (upds (look σ) (putW (rdB' d σ) (rdI' d σ) 0 d)) a w := by
  have hws := hR.ws
  have i2 : ∀ id, upds (look σ) (putW (rdB' d σ) (rdI' d σ) 0 d) (.k id) = look σ (.k id) := fun id => put_other fun p _ => p.1.ne_k id
  have n2 : ∀ c, upds (look σ) (putW (rdB' d σ) (rdI' d σ) 0 d) (.n c) = look σ (.n c) := fun c => put_other fun p _ => p.1.ne_n c
  have hS : Sub (look σ) (upds (look σ) (putW (rdB' d σ) (rdI' d σ) 0 d)) := ⟨fun id h => by unfold kn at h ⊢; rw [i2]; exact h, fun c h => by unfold knn at h ⊢; rw [n2]; exact h⟩
  have dom : ∀ l, (∃ p : Pl × Lf, p ∈ d ∧ p.1.loc = l) → ∃ p : Pl, ∃ lf : Lf, ∃ i c, p.loc = l ∧ upds (look σ) (putW (rdB' d σ) (rdI' d σ) 0 d) l = some (p.lv (lf.cv (rdB' d σ) (rdI' d σ) i)) ∧ look σ l = some (p.lv c) ∧ ∀ e, (lf.cv (rdB' d σ) (rdI' d σ) i).den e = c.den e := by
    intro l hl'
    obtain ⟨i, p, lf, h1, h2, h3⟩ := put_at (bs := rdB' d σ) (ns := rdI' d σ) (s := look σ) hl'
    have hp := List.all_eq_true.1 ok _ (List.mem_of_getElem? h1)
    simp only [] at hp
    cases hc : p.rd σ with
    | none => rw [hc] at hp; cases hp
    | some c =>
      rw [hc] at hp
      refine ⟨p, lf, i, c, h2, h3, by rw [← h2]; exact Pl.rd_look hc, fun e => fits_den hp ?_ ?_ e⟩
      · simp only [rdB', h1, hc]
      · simp only [rdI', h1, hc]
  refine hR.wk ⟨?_, ?_, ?_, ?_⟩ ⟨fun id p hp => hS.1 id (hR.hp.pin.1 id p hp).2, fun c m hm => hS.2 c (hR.hp.pin.2 c m hm).2⟩
  · intro t v hv
    by_cases hd : ∃ p : Pl × Lf, p ∈ d ∧ p.1.loc = .t t
    · obtain ⟨p, lf, i, c, h1, h2, h3, h4⟩ := dom _ hd
      rw [h2] at hv
      cases p with
      | t n =>
        obtain rfl : Sv.one (lf.cv (rdB' d σ) (rdI' d σ) i) = v := by simpa [Pl.lv] using hv
        exact ⟨⟨.one c, h3, h4⟩, lf.cv_sc _ _ _ _⟩
      | c id off => cases h1
    · have hd' : ∀ p : Pl × Lf, p ∈ d → p.1.loc ≠ .t t := fun p hp e => hd ⟨p, hp, e⟩
      rw [put_other hd'] at hv
      exact ⟨⟨v, hv, fun _ => rfl⟩, (hws.tm t v hv).sub hS⟩
  · intro id off v hv
    by_cases hd : ∃ p : Pl × Lf, p ∈ d ∧ p.1.loc = .c id off
    · obtain ⟨p, lf, i, c, h1, h2, h3, h4⟩ := dom _ hd
      rw [h2] at hv
      cases p with
      | t n => cases h1
      | c id' off' =>
        obtain rfl : lf.cv (rdB' d σ) (rdI' d σ) i = v := by simpa [Pl.lv] using hv
        obtain ⟨_, t, ro, n, cp, q1, q2⟩ := hws.cl id off _ h3
        exact ⟨⟨c, h3, h4⟩, lf.cv_sc _ _ _ _, t, ro, n, cp, by rw [i2]; exact q1, q2⟩
    · have hd' : ∀ p : Pl × Lf, p ∈ d → p.1.loc ≠ .c id off := fun p hp e => hd ⟨p, hp, e⟩
      rw [put_other hd'] at hv
      obtain ⟨q1, t, ro, n, cp, q2, q3⟩ := hws.cl id off v hv
      exact ⟨⟨v, hv, fun _ => rfl⟩, q1.sub hS, t, ro, n, cp, by rw [i2]; exact q2, q3⟩
  · intro id b hb _
    rw [i2] at hb
    exact hb
  · intro id b c es hb hc
    rw [i2] at hb
    exact hS.2 c (hws.cp id b c es hb hc)
/-- A loop that code has stopped at: from there on to the end. -/
theorem stop_loop {F : Leaf → Prop} {wf : List FuncId} {call : CallF} (hT : TbOk P tb) (hm : P.follows .mixedOrders = true) (hc : CallFOk P call) {N fuel : Nat} {body : Code} {k : Nat} {rest : List It} (d : Dom) (σ : St) (I : (Nat → Bool) → (Nat → Int) → St) (hI : ∀ bs ns, look (I bs ns) = upds (look σ) (putW bs ns 0 d))
    (ok : (d.all fun p => match p.1.rd σ with
      | some c => p.2.fits c
      | none => false) = true)
    (inv : (Nat → Bool) → (Nat → Int) → Prop) (μ : (Nat → Int) → Nat) (h0 : inv (rdB' d σ) (rdI' d σ))
    (hstep : ∀ bs ns, inv bs ns → ∃ y, (evC tb wf call N [] fuel body (I bs ns)).At y ∧ ((y.1 = .normal ∧ okStep d σ (I bs ns) y.2 = true ∧ inv (rdB' d y.2) (rdI' d y.2) ∧ μ (rdI' d y.2) < μ ns) ∨
      ((∃ i, y.1 = .exit i) ∨ y.1 = .ret) ∧ ∃ z, (evK tb wf call N fuel (.blk k :: rest) y).At z ∧ F z))
    {C : Ctx} {Q : Exit → Act → World → Prop} (hQ : ∀ z, F z → ∀ e a w, Rel C N e (look z.2) a w → Post P Q z.1 a w) {e : Env} {a : Act} {w : World} (hR : Rel C N e (look σ) a w) :
    stackPost P Q (.code (.block k (.loop body)) :: rest) .normal a w := by
  show (Code.block k (.loop body)).wp P (stackPost P Q rest) a w
  refine wp_block (wp_loop_rounds (μ (rdI' d σ) + 1) ?_)
  refine loop_ok (wf := wf) (fuel := fuel) hT hm hc d σ I hI inv μ (fun y => ((∃ i, y.1 = .exit i) ∨ y.1 = .ret) ∧ ∃ z, (evK tb wf call N fuel (.blk k :: rest) y).At z ∧ F z) (fun bs ns hi => ?_) (C := C) (Q := Exit.inBlock k (stackPost P Q rest)) ?_ _ _ _ h0 (Nat.lt_succ_self _) e a w (by rw [hI]; exact init_rel ok hR)
  · obtain ⟨y, h1, h2⟩ := hstep bs ns hi
    refine ⟨y, h1, ?_⟩
    rcases h2 with h2 | ⟨h2, h3⟩
    · exact Or.inl h2
    · exact Or.inr ⟨h2, h2, h3⟩
  · rintro ⟨o, σ'⟩ ⟨ho, z, hz, hF⟩ e' a' w' hR'
    have := evK_ok hT hm hc (.blk k :: rest) o σ' z hz (fun e a w hR => hQ z hF e a w hR) e' a' w' hR'
    rcases ho with ⟨i, ho⟩ | ho
    · simp only at ho; subst ho; exact this
    · simp only at ho; subst ho; exact this
end
end Sx
end Go.Proofs.YtdelgbdiofkndaaGreatDoor
