/-
  A function that only reads: what is known of it at one state is known at every state that has the same blocks under other names.
-/
import Derived.Test.YtpdhkgfdmpofiaaGreatDoorSxs
set_option linter.unusedSimpArgs false
set_option linter.unusedVariables false
namespace Go.Proofs.YtpdhkgfdmpofiaaGreatDoor
namespace Sx
open Go.RowKit

section
variable {P : Program} {tb : Tb}
def Pv.ren (ρ : Nat → Nat) : Pv → Pv
  | .ptr id off => .ptr (ρ id) off
  | p => p
def Cv.ren (ρ : Nat → Nat) : Cv → Cv
  | .ptr id off => .ptr (ρ id) off
  | .slc id off len cap => .slc (ρ id) off len cap
  | .fn f caps => .fn f (caps.map (Pv.ren ρ))
  | c => c
def Sv.ren (ρ : Nat → Nat) : Sv → Sv
  | .one c => .one (c.ren ρ)
  | .agg cs => .agg (cs.map (Cv.ren ρ))
  | .tup vs => .tup (vs.map fun p => (p.1, p.2.map (Cv.ren ρ)))
def Env.ren (e : Env) (ρ : Nat → Nat) : Env := ⟨fun id => e.pl (ρ id), e.nm⟩
theorem Pv.ren_den (ρ : Nat → Nat) (e : Env) (p : Pv) : (p.ren ρ).den e = p.den (e.ren ρ) := by cases p <;> rfl
theorem Sn.ren_den (ρ : Nat → Nat) (e : Env) (n : Sn) : n.den (e.ren ρ) = n.den e := by cases n <;> rfl
theorem Cv.ren_den (ρ : Nat → Nat) (e : Env) (c : Cv) : (c.ren ρ).den e = c.den (e.ren ρ) := by
  cases c with
  | ptr id off => simp only [Cv.ren, Cv.den, Sn.ren_den]; rfl
  | slc id off len cap => simp only [Cv.ren, Cv.den, Sn.ren_den]; rfl
  | fn f caps => simp only [Cv.ren, Cv.den, List.map_map, Function.comp_def, Pv.ren_den]
  | _ => rfl
theorem densA_ren (ρ : Nat → Nat) (e : Env) (cs : List Cv) : densA e (cs.map (Cv.ren ρ)) = densA (e.ren ρ) cs := by
  unfold densA
  rw [List.map_map]
  congr 1
  exact List.map_congr_left fun c _ => Cv.ren_den ρ e c
theorem Sv.ren_den (ρ : Nat → Nat) (e : Env) (v : Sv) : (v.ren ρ).den e = v.den (e.ren ρ) := by
  cases v with
  | one c => exact Cv.ren_den ρ e c
  | agg cs => simp only [Sv.ren, Sv.den, densA_ren]
  | tup vs =>
    simp only [Sv.ren, Sv.den, List.map_map]
    congr 2
    refine List.map_congr_left fun p _ => ?_
    simp only [Function.comp, compDen, densA_ren, List.map_map]
    congr 2
    exact List.map_congr_left fun c _ => Cv.ren_den ρ e c
/-- The blocks of a state that a function reads: each is one of the other state's. -/
def SameCells (ρ : Nat → Nat) (cs cs1 : List Cv) : Prop := cs1.length = cs.length ∧ ∀ (e : Env) (j : Nat), (cs1[j]?).map (·.den e) = (cs[j]?).map (·.den (e.ren ρ))
def BkIs (σ : St) (ρ : Nat → Nat) : List (Nat × Blk) → Prop
  | [] => True
  | (id, b) :: l => (∃ t cs cs1 ro cp, b = .ar t true cs none ∧ alook σ.bk (ρ id) = some (.ar t ro cs1 cp) ∧ SameCells ρ cs cs1) ∧ BkIs σ ρ l
theorem BkIs.at_ {σ : St} {ρ : Nat → Nat} : ∀ {l : List (Nat × Blk)}, BkIs σ ρ l → ∀ {id b}, alook l id = some b → ∃ t cs cs1 ro cp, b = .ar t true cs none ∧ alook σ.bk (ρ id) = some (.ar t ro cs1 cp) ∧ SameCells ρ cs cs1
  | [], _, _, _, h => by cases h
  | (k, c) :: l, hl, id, b, h => by
    simp only [alook] at h
    cases hk : Nat.beq k id with
    | true =>
      rw [hk] at h
      obtain rfl := beq_iff'.1 hk
      obtain rfl : c = b := by simpa using h
      exact hl.1
    | false => rw [hk] at h; exact BkIs.at_ hl.2 h
def closedB (σ : St) : Bool := σ.bk.all fun p => p.2.inB (σ.bk.map (·.1)) []
theorem alook_mem {α : Type} : ∀ {l : List (Nat × α)} {n : Nat} {v : α}, alook l n = some v → (n, v) ∈ l
  | [], _, _, h => by cases h
  | (k, u) :: l, n, v, h => by
    simp only [alook] at h
    cases hk : Nat.beq k n with
    | true =>
      rw [hk] at h
      obtain rfl := beq_iff'.1 hk
      obtain rfl : u = v := by simpa using h
      exact List.mem_cons_self
    | false => rw [hk] at h; exact List.mem_cons_of_mem _ (alook_mem h)
theorem alook_isSome {α : Type} : ∀ {l : List (Nat × α)} {n : Nat}, n ∈ l.map (·.1) → (alook l n).isSome = true
  | [], _, h => by cases h
  | (k, u) :: l, n, h => by
    simp only [alook]
    cases hk : Nat.beq k n with
    | true => rfl
    | false =>
      rw [List.map_cons, List.mem_cons] at h
      rcases h with rfl | h
      · rw [Nat.beq_refl] at hk; cases hk
      · exact alook_isSome h
theorem ren_hp {σ0 σ : St} {ρ : Nat → Nat} (hb : BkIs σ ρ σ0.bk) (hc : closedB σ0 = true) {C : Ctx} {e : Env} {w : World} (hp : Hp C e (look σ) w) : Hp (ctx0 w) (e.ren ρ) (look σ0) w := by
  have blk : ∀ id b, look σ0 (.k id) = some (.bk b) → ∃ t cs cs1 ro cp, alook σ0.bk id = some (.ar t true cs none) ∧ b = .ar t true cs.length none ∧ alook σ.bk (ρ id) = some (.ar t ro cs1 cp) := by
    intro id b h
    simp only [look, Option.map_eq_some_iff] at h
    obtain ⟨b0, h1, h2⟩ := h
    obtain ⟨t, cs, cs1, ro, cp, rfl, h3, _⟩ := hb.at_ h1
    exact ⟨t, cs, cs1, ro, cp, h1, by simpa [Blk.info] using h2.symm, h3⟩
  have S : Sub (stoOf (σ0.bk.map (·.1)) []) (look σ0) := by
    refine ⟨fun id h => ?_, fun c h => ?_⟩
    · unfold kn at h ⊢
      simp only [stoOf] at h
      split at h
      · rename_i hm
        obtain ⟨b, hb'⟩ := Option.isSome_iff_exists.1 (alook_isSome (memb_iff.1 hm))
        simp only [look, hb']; rfl
      · cases h
    · unfold knn at h
      simp only [stoOf] at h
      split at h
      · rename_i hm; cases hm
      · cases h
  refine ⟨fun _ h => h, ?_, ?_, ?_, ?_, ?_, ?_, ?_, ⟨fun _ _ h => (by cases h), fun _ _ h => (by cases h)⟩, ⟨rfl, rfl, rfl, Nat.le_refl _, fun _ _ _ => rfl, hp.fr.glob0⟩⟩
  · intro id off v hv
    have hv' := hv
    simp only [look, Option.bind_eq_some_iff] at hv'
    obtain ⟨b0, h1, h2⟩ := hv'
    obtain ⟨t, cs, cs1, ro, cp, rfl, h3, hsame⟩ := hb.at_ h1
    obtain ⟨c, h4, h5⟩ := Option.map_eq_some_iff.1 h2
    obtain rfl : c = v := by simpa using h5
    have h4 : cs[off]? = some c := h4
    have hlt := (List.getElem?_eq_some_iff.1 h4).1
    have hin := List.all_eq_true.1 hc _ (alook_mem h1)
    refine ⟨?_, ⟨t, true, cs.length, none, by simp only [look, h1]; rfl, hlt⟩, ?_⟩
    · have : (Blk.ar t true cs none).inB (σ0.bk.map (·.1)) [] = true := hin
      simp only [Blk.inB, Bool.and_eq_true] at this
      exact (Cv.inB_sc (List.all_eq_true.1 this.1 c (List.mem_of_getElem? h4))).sub S
    · have hlt1 : off < cs1.length := by rw [hsame.1]; exact hlt
      have h5 := hsame.2 e off
      rw [h4, List.getElem?_eq_getElem hlt1] at h5
      have h5 : (cs1[off]).den e = c.den (e.ren ρ) := by simpa using h5
      have h6 : look σ (.c (ρ id) off) = some (.cv cs1[off]) := by
        simp only [look, h3, Option.bind_some, Blk.cell, List.getElem?_eq_getElem hlt1, Option.map_some]
      obtain ⟨_, _, h7⟩ := hp.cl _ _ _ h6
      rw [h5] at h7
      exact h7
  · intro id t n cp h
    obtain ⟨t', cs, cs1, ro, cp', _, h2, _⟩ := blk id _ h
    cases h2
  · intro id t ro n f cp h
    obtain ⟨t', cs, cs1, ro, cp', _, h2, _⟩ := blk id _ h
    cases h2
  · intro id b c es h hcp
    obtain ⟨t', cs, cs1, ro, cp', _, rfl, _⟩ := blk id _ h
    cases hcp
  · intro id id' b b' h1 _ h3
    obtain ⟨t', cs, cs1, ro, cp', _, rfl, _⟩ := blk id _ h1
    cases h3
  · intro id b h _
    obtain ⟨t', cs, cs1, ro, cp', _, rfl, h3⟩ := blk id _ h
    exact hp.lt (ρ id) (.ar t' ro cs1.length cp') (by simp only [look, h3]; rfl) rfl
  · intro id b h hr
    obtain ⟨t', cs, cs1, ro, cp', _, rfl, _⟩ := blk id _ h
    cases hr
/-- From one state to every other that has its blocks. -/
theorem FunOk.ren {f : FuncId} {args0 args : List Sv} {σ0 σ0' σ : St} {v : Sv} (h : FunOk P f args0 σ0 v σ0') (ρ : Nat → Nat) (hb : BkIs σ ρ σ0.bk) (hc : closedB σ0 = true) (ha : ∀ e, args.map (·.den e) = args0.map (·.den (e.ren ρ))) (hs : ∀ x ∈ args0, x.sc (look σ0)) (hv : v.freeB = true) : FunOk P f args σ v σ := by
  refine ⟨fun C e w hp _ => ?_, KeepL.refl _⟩
  have h1 := h.run (ctx0 w) (e.ren ρ) w (ren_hp hb hc hp) hs
  rw [ha e]
  refine h1.mono fun en w' => ?_
  rintro ⟨e', -, hp', rfl, -⟩
  have hB : Below w.heap.size w w' := ⟨hp'.fr.os, hp'.fr.tape, hp'.fr.output, hp'.fr.size, fun k hk => hp'.fr.block k hk (by show ¬ w.heap.size ≤ k; omega)⟩
  exact ⟨e, Agree.refl _ _, hp.keep hB, by rw [Sv.free_den hv e' e], Sv.free_sc hv _⟩

/-! Cells of numbers and truth values: what they read as. -/
def isL : List Lf → List Cv → Bool
  | [], [] => true
  | .b :: ls, .b _ _ :: cs => isL ls cs
  | .i k :: ls, .i k' _ _ :: cs => decide (k = k') && isL ls cs
  | _, _ => false
def bOf (cs : List Cv) (j : Nat) : Bool := match cs[j]? with
  | some (.b v _) => v
  | _ => false
def nOf (cs : List Cv) (j : Nat) : Int := match cs[j]? with
  | some (.i _ n _) => n
  | _ => 0
theorem isL_den {c0 : List Cv} : ∀ {ls : List Lf} {cs : List Cv} {j : Nat}, isL ls cs = true → (∀ i, cs[i]? = c0[j + i]?) → ∀ (e e' : Env) (i : Nat), (cs[i]?).map (·.den e) = ((symL (bOf c0) (nOf c0) j ls)[i]?).map (·.den e')
  | [], [], j, _, _ => fun e e' i => by simp [symL]
  | [], _ :: _, _, h, _ => by cases h
  | .b :: _, [], _, h, _ => by cases h
  | .i _ :: _, [], _, h, _ => by cases h
  | l :: ls, c :: cs, j, h, hi => by
    intro e e' i
    have h0 : c0[j]? = some c := by have := hi 0; simpa using this.symm
    have hn : ∀ i, cs[i]? = c0[j + 1 + i]? := fun i => by
      have := hi (i + 1)
      rw [show j + (i + 1) = j + 1 + i by omega] at this
      exact this
    cases i with
    | zero =>
      simp only [symL, List.getElem?_cons_zero, Option.map_some]
      congr 1
      cases l with
      | b => cases c with
        | b v fl => simp [Lf.cv, Cv.den, bOf, h0]
        | _ => cases h
      | i k => cases c with
        | i k' v fl =>
          simp only [isL, Bool.and_eq_true, decide_eq_true_eq] at h
          obtain ⟨rfl, _⟩ := h
          simp [Lf.cv, Cv.den, nOf, h0]
        | _ => cases h
    | succ i =>
      simp only [symL, List.getElem?_cons_succ]
      have h' : isL ls cs = true := by
        cases l with
        | b => cases c with
          | b v fl => exact h
          | _ => cases h
        | i k => cases c with
          | i k' v fl => exact (Bool.and_eq_true_iff.1 h).2
          | _ => cases h
      exact isL_den h' hn e e' i
theorem isL_len : ∀ {ls : List Lf} {cs : List Cv}, isL ls cs = true → cs.length = ls.length
  | [], [], _ => rfl
  | [], _ :: _, h => by cases h
  | .b :: _, [], h => by cases h
  | .i _ :: _, [], h => by cases h
  | .b :: ls, c :: cs, h => by
    cases c with
    | b v fl => simp [isL_len (show isL ls cs = true from h)]
    | _ => cases h
  | .i k :: ls, c :: cs, h => by
    cases c with
    | i k' v fl => simp [isL_len (Bool.and_eq_true_iff.1 h).2]
    | _ => cases h
theorem symL_len (bs : Nat → Bool) (ns : Nat → Int) : ∀ (ls : List Lf) (j : Nat), (symL bs ns j ls).length = ls.length
  | [], _ => rfl
  | _ :: ls, j => by simp [symL, symL_len bs ns ls]
theorem same_isL {ρ : Nat → Nat} {ls : List Lf} {cs : List Cv} (h : isL ls cs = true) : SameCells ρ (symL (bOf cs) (nOf cs) 0 ls) cs :=
  ⟨by rw [isL_len h, symL_len], fun e j => isL_den h (fun i => by rw [Nat.zero_add]) e _ j⟩
theorem same_cons {ρ : Nat → Nat} {c c1 : Cv} {cs cs1 : List Cv} (h0 : ∀ e, c1.den e = c.den (e.ren ρ)) (h : SameCells ρ cs cs1) : SameCells ρ (c :: cs) (c1 :: cs1) := by
  refine ⟨by simp [h.1], fun e j => ?_⟩
  cases j with
  | zero => simp [h0]
  | succ j => simpa using h.2 e j

/-- Rules that look at what their arguments point to. -/
abbrev RulesM := List (Nat × (List Sv → St → Option Sv))
def spM (l : RulesM) (f : FuncId) : Option (List Sv → St → Tree FLeaf) := match alook l f with
  | some g => some fun args σ => match g args σ with
    | some v => .leaf (v, σ)
    | none => .fail
  | none => none
def RuleMOk (P : Program) (f : FuncId) (g : List Sv → St → Option Sv) : Prop := ∀ args σ v, g args σ = some v → FunOk P f args σ v σ
def RulesMOk (P : Program) : RulesM → Prop
  | [] => True
  | (f, g) :: l => RuleMOk P f g ∧ RulesMOk P l
theorem RulesMOk.at_ : ∀ {l : RulesM}, RulesMOk P l → ∀ {f g}, alook l f = some g → RuleMOk P f g
  | [], _, _, _, h => by cases h
  | (k, g) :: l, hl, f, g', h => by
    simp only [alook] at h
    cases c : Nat.beq k f with
    | true =>
      rw [c] at h
      obtain rfl := beq_iff'.1 c
      obtain rfl : g = g' := by simpa using h
      exact hl.1
    | false => rw [c] at h; exact RulesMOk.at_ hl.2 h
theorem spM_ok {l : RulesM} (h : RulesMOk P l) : SpOk P (spM l) := by
  intro f k hk args σ y hy
  unfold spM at hk
  split at hk
  · rename_i g hg
    obtain rfl := Option.some.inj hk
    simp only [] at hy
    split at hy
    · rename_i v hv
      obtain rfl := (show _ = y from hy)
      exact h.at_ hg args σ v hv
    · exact hy.elim
  · cases hk
end
end Sx
end Go.Proofs.YtpdhkgfdmpofiaaGreatDoor
