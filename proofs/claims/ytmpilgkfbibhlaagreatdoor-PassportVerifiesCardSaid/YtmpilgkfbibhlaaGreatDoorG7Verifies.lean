/-
 Functions that are told by a rule: what they hand back depends on their arguments' values alone.
-/
import Derived.Test.YtmpilgkfbibhlaaGreatDoorG6Verifies
set_option linter.unusedSimpArgs false
set_option linter.unusedVariables false
namespace Go.Proofs.YtmpilgkfbibhlaaGreatDoor
namespace Sx
open Go.RowKit
section
variable {P : Program} {tb : Tb}
abbrev Rules := List (Nat × (List Sv → Option Sv))
def spR (l : Rules) (f : FuncId) : Option (List Sv → St → Tree FLeaf) := match alook l f with
 | some g => some fun args σ => match g args with
  | some v => .leaf (v, σ)
  | none => .fail
 | none => none
def RuleOk (P : Program) (f : FuncId) (g : List Sv → Option Sv) : Prop := ∀ args v, g args = some v → v.freeB = true ∧ ∀ (e : Env) (w : World), Calls P f (args.map (·.den e)).toArray w fun en w' => en = .returned (v.den e) ∧ Below w.heap.size w w'
def RulesOk (P : Program) : Rules → Prop
 | [] => True
 | (f, g) :: l => RuleOk P f g ∧ RulesOk P l
theorem RulesOk.at_ : ∀ {l : Rules}, RulesOk P l → ∀ {f g}, alook l f = some g → RuleOk P f g
 | [], _, _, _, h => by cases h
 | (k, g) :: l, hl, f, g', h => by
  simp only [alook] at h
  cases c : Nat.beq k f with
  | true =>
   rw [c] at h
   obtain rfl := beq_iff'.1 c
   obtain rfl : g = g' := by simpa using h
   exact hl.1
  | false => rw [c] at h; exact RulesOk.at_ hl.2 h
theorem spR_ok {l : Rules} (h : RulesOk P l) : SpOk P (spR l) := by
 intro f k hk args σ y hy
 unfold spR at hk
 split at hk
 ·rename_i g hg
  obtain rfl := Option.some.inj hk
  simp only [] at hy
  split at hy
  ·rename_i v hv
   obtain rfl := (show _ = y from hy)
   obtain ⟨h1, h2⟩ := h.at_ hg args v hv
   exact FunOk.of_any h1 h2
  ·exact hy.elim
 ·cases hk
end
end Sx
end Go.Proofs.YtmpilgkfbibhlaaGreatDoor
namespace Go.Proofs.YtmpilgkfbibhlaaGreatDoor
namespace Sx
open Go.RowKit
section
variable {P : Program} {tb : Tb}
def Pv.ren (ρ : Nat → Nat) : Pv → Pv
 | .ptr id off => .ptr (ρ id) off
 | p => p
def Cv.ren (ρ : Nat → Nat) : Cv → Cv
 | .ptr id off => .ptr (ρ id) off
 | .slc id off len cap => .slc (ρ id) off len cap
 | .fn f caps => .fn f (caps.map (Pv.ren ρ))
 | c => c
def Sv.ren (ρ : Nat → Nat) : Sv → Sv
 | .one c => .one (c.ren ρ)
 | .agg cs => .agg (cs.map (Cv.ren ρ))
 | .tup vs => .tup (vs.map fun p => (p.1, p.2.map (Cv.ren ρ)))
def Env.ren (e : Env) (ρ : Nat → Nat) : Env := ⟨fun id => e.pl (ρ id), e.nm⟩
def SameCells (ρ : Nat → Nat) (cs cs1 : List Cv) : Prop := cs1.length = cs.length ∧ ∀ (e : Env) (j : Nat), (cs1[j]?).map (·.den e) = (cs[j]?).map (·.den (e.ren ρ))
def BkIs (σ : St) (ρ : Nat → Nat) : List (Nat × Blk) → Prop
 | [] => True
 | (id, b) :: l => (∃ t cs cs1 ro cp, b = .ar t true cs none ∧ alook σ.bk (ρ id) = some (.ar t ro cs1 cp) ∧ SameCells ρ cs cs1) ∧ BkIs σ ρ l
theorem BkIs.at_ {σ : St} {ρ : Nat → Nat} : ∀ {l : List (Nat × Blk)}, BkIs σ ρ l → ∀ {id b}, alook l id = some b → ∃ t cs cs1 ro cp, b = .ar t true cs none ∧ alook σ.bk (ρ id) = some (.ar t ro cs1 cp) ∧ SameCells ρ cs cs1
 | [], _, _, _, h => by cases h
 | (k, c) :: l, hl, id, b, h => by
  simp only [alook] at h
  cases hk : Nat.beq k id with
  | true =>
   rw [hk] at h
   obtain rfl := beq_iff'.1 hk
   obtain rfl : c = b := by simpa using h
   exact hl.1
  | false => rw [hk] at h; exact BkIs.at_ hl.2 h
def closedB (σ : St) : Bool := σ.bk.all fun p => p.2.inB (σ.bk.map (·.1)) []
theorem alook_mem {α : Type} : ∀ {l : List (Nat × α)} {n : Nat} {v : α}, alook l n = some v → (n, v) ∈ l
 | [], _, _, h => by cases h
 | (k, u) :: l, n, v, h => by
  simp only [alook] at h
  cases hk : Nat.beq k n with
  | true =>
   rw [hk] at h
   obtain rfl := beq_iff'.1 hk
   obtain rfl : u = v := by simpa using h
   exact List.mem_cons_self
  | false => rw [hk] at h; exact List.mem_cons_of_mem _ (alook_mem h)
theorem alook_isSome {α : Type} : ∀ {l : List (Nat × α)} {n : Nat}, n ∈ l.map (·.1) → (alook l n).isSome = true
 | [], _, h => by cases h
 | (k, u) :: l, n, h => by
  simp only [alook]
  cases hk : Nat.beq k n with
  | true => rfl
  | false =>
   rw [List.map_cons, List.mem_cons] at h
   rcases h with rfl | h
   ·rw [Nat.beq_refl] at hk; cases hk
   ·exact alook_isSome h
theorem ren_hp {σ0 σ : St} {ρ : Nat → Nat} (hb : BkIs σ ρ σ0.bk) (hc : closedB σ0 = true) {C : Ctx} {e : Env} {w : World} (hp : Hp C e (look σ) w) : Hp (ctx0 w) (e.ren ρ) (look σ0) w := by
 have blk : ∀ id b, look σ0 (.k id) = some (.bk b) → ∃ t cs cs1 ro cp, alook σ0.bk id = some (.ar t true cs none) ∧ b = .ar t true cs.length none ∧ alook σ.bk (ρ id) = some (.ar t ro cs1 cp) := by
  intro id b h
  simp only [look, Option.map_eq_some_iff] at h
  obtain ⟨b0, h1, h2⟩ := h
  obtain ⟨t, cs, cs1, ro, cp, rfl, h3, _⟩ := hb.at_ h1
  exact ⟨t, cs, cs1, ro, cp, h1, by simpa [Blk.info] using h2.symm, h3⟩
 have S : Sub (stoOf (σ0.bk.map (·.1)) []) (look σ0) := by
  refine ⟨fun id h => ?_, fun c h => ?_⟩
  ·unfold kn at h ⊢
   simp only [stoOf] at h
   split at h
   ·rename_i hm
    obtain ⟨b, hb'⟩ := Option.isSome_iff_exists.1 (alook_isSome (memb_iff.1 hm))
    simp only [look, hb']; rfl
   ·cases h
  ·unfold knn at h
   simp only [stoOf] at h
   split at h
   ·rename_i hm; cases hm
   ·cases h
 refine ⟨fun _ h => h, ?_, ?_, ?_, ?_, ?_, ?_, ?_, ⟨fun _ _ h => (by cases h), fun _ _ h => (by cases h)⟩, ⟨rfl, rfl, rfl, Nat.le_refl _, fun _ _ _ => rfl, hp.fr.glob0⟩⟩
 ·intro id off v hv
  have hv' := hv
  simp only [look, Option.bind_eq_some_iff] at hv'
  obtain ⟨b0, h1, h2⟩ := hv'
  obtain ⟨t, cs, cs1, ro, cp, rfl, h3, hsame⟩ := hb.at_ h1
  obtain ⟨c, h4, h5⟩ := Option.map_eq_some_iff.1 h2
  obtain rfl : c = v := by simpa using h5
  have h4 : cs[off]? = some c := h4
  have hlt := (List.getElem?_eq_some_iff.1 h4).1
  have hin := List.all_eq_true.1 hc _ (alook_mem h1)
  refine ⟨?_, ⟨t, true, cs.length, none, by simp only [look, h1]; rfl, hlt⟩, ?_⟩
  ·have : (Blk.ar t true cs none).inB (σ0.bk.map (·.1)) [] = true := hin
   simp only [Blk.inB, Bool.and_eq_true] at this
   exact (Cv.inB_sc (List.all_eq_true.1 this.1 c (List.mem_of_getElem? h4))).sub S
  ·have hlt1 : off < cs1.length := by rw [hsame.1]; exact hlt
   have h5 := hsame.2 e off
   rw [h4, List.getElem?_eq_getElem hlt1] at h5
   have h5 : (cs1[off]).den e = c.den (e.ren ρ) := by simpa using h5
   have h6 : look σ (.c (ρ id) off) = some (.cv cs1[off]) := by
    simp only [look, h3, Option.bind_some, Blk.cell, List.getElem?_eq_getElem hlt1, Option.map_some]
   obtain ⟨_, _, h7⟩ := hp.cl _ _ _ h6
   rw [h5] at h7
   exact h7
 ·intro id t n cp h
  obtain ⟨t', cs, cs1, ro, cp', _, h2, _⟩ := blk id _ h
  cases h2
 ·intro id t ro n f cp h
  obtain ⟨t', cs, cs1, ro, cp', _, h2, _⟩ := blk id _ h
  cases h2
 ·intro id b c es h hcp
  obtain ⟨t', cs, cs1, ro, cp', _, rfl, _⟩ := blk id _ h
  cases hcp
 ·intro id id' b b' h1 _ h3
  obtain ⟨t', cs, cs1, ro, cp', _, rfl, _⟩ := blk id _ h1
  cases h3
 ·intro id b h _
  obtain ⟨t', cs, cs1, ro, cp', _, rfl, h3⟩ := blk id _ h
  exact hp.lt (ρ id) (.ar t' ro cs1.length cp') (by simp only [look, h3]; rfl) rfl
 ·intro id b h hr
  obtain ⟨t', cs, cs1, ro, cp', _, rfl, _⟩ := blk id _ h
  cases hr
theorem FunOk.ren {f : FuncId} {args0 args : List Sv} {σ0 σ0' σ : St} {v : Sv} (h : FunOk P f args0 σ0 v σ0') (ρ : Nat → Nat) (hb : BkIs σ ρ σ0.bk) (hc : closedB σ0 = true) (ha : ∀ e, args.map (·.den e) = args0.map (·.den (e.ren ρ))) (hs : ∀ x ∈ args0, x.sc (look σ0)) (hv : v.freeB = true) : FunOk P f args σ v σ := by
 refine ⟨fun C e w hp _ => ?_, KeepL.refl _⟩
 have h1 := h.run (ctx0 w) (e.ren ρ) w (ren_hp hb hc hp) hs
 rw [ha e]
 refine h1.mono fun en w' => ?_
 rintro ⟨e', -, hp', rfl, -⟩
 have hB : Below w.heap.size w w' := ⟨hp'.fr.os, hp'.fr.tape, hp'.fr.output, hp'.fr.size, fun k hk => hp'.fr.block k hk (by show ¬ w.heap.size ≤ k; omega)⟩
 exact ⟨e, Agree.refl _ _, hp.keep hB, by rw [Sv.free_den hv e' e], Sv.free_sc hv _⟩
/-! Cells of numbers and truth values: what they read as. -/
abbrev RulesM := List (Nat × (List Sv → St → Option Sv))
def RuleMOk (P : Program) (f : FuncId) (g : List Sv → St → Option Sv) : Prop := ∀ args σ v, g args σ = some v → FunOk P f args σ v σ
def RulesMOk (P : Program) : RulesM → Prop
 | [] => True
 | (f, g) :: l => RuleMOk P f g ∧ RulesMOk P l
theorem RulesMOk.at_ : ∀ {l : RulesM}, RulesMOk P l → ∀ {f g}, alook l f = some g → RuleMOk P f g
 | [], _, _, _, h => by cases h
 | (k, g) :: l, hl, f, g', h => by
  simp only [alook] at h
  cases c : Nat.beq k f with
  | true =>
   rw [c] at h
   obtain rfl := beq_iff'.1 c
   obtain rfl : g = g' := by simpa using h
   exact hl.1
  | false => rw [c] at h; exact RulesMOk.at_ hl.2 h
end
end Sx
end Go.Proofs.YtmpilgkfbibhlaaGreatDoor
namespace Go.Proofs.YtmpilgkfbibhlaaGreatDoor
namespace Sx
open Go.RowKit
inductive Lv where
 | b (v : Bool)
 | i (k : IntKind) (n : Int)
inductive Vv where
 | one (x : Lv)
 | agg (xs : List Lv)
 | tup (xs : List (Bool × List Lv))
def Lv.cv : Lv → Cv
 | .b v => .b v false
 | .i k n => .i k n false
def Lv.val : Lv → Value
 | .b v => .bool v
 | .i k n => .int k n
def Cv.lv : Cv → Option Lv
 | .b v _ => some (.b v)
 | .i k n _ => some (.i k n)
 | _ => none
def lvs : List Cv → Option (List Lv)
 | [] => some []
 | c :: cs => match c.lv, lvs cs with
  | some x, some xs => some (x :: xs)
  | _, _ => none
def lvt : List (Bool × List Cv) → Option (List (Bool × List Lv))
 | [] => some []
 | p :: ps => match lvs p.2, lvt ps with
  | some x, some xs => some ((p.1, x) :: xs)
  | _, _ => none
def Sv.vv : Sv → Option Vv
 | .one c => c.lv.map .one
 | .agg cs => (lvs cs).map .agg
 | .tup vs => (lvt vs).map .tup
def Vv.sv : Vv → Sv
 | .one x => .one x.cv
 | .agg xs => .agg (xs.map Lv.cv)
 | .tup xs => .tup (xs.map fun p => (p.1, p.2.map Lv.cv))
theorem Cv.lv_den {c : Cv} {x : Lv} (h : c.lv = some x) (e e' : Env) : c.den e = x.cv.den e' := by
 cases c <;> simp only [Cv.lv, Option.some.injEq, reduceCtorEq] at h <;> subst h <;> rfl
theorem lvs_den : ∀ {cs : List Cv} {xs : List Lv}, lvs cs = some xs → ∀ e e', cs.map (·.den e) = (xs.map Lv.cv).map (·.den e')
 | [], xs, h, e, e' => by obtain rfl := Option.some.inj h; rfl
 | c :: cs, xs, h, e, e' => by
  simp only [lvs] at h
  split at h
  ·rename_i x xs' h1 h2
   obtain rfl := Option.some.inj h
   simp only [List.map_cons]
   rw [Cv.lv_den h1 e e', lvs_den h2 e e']
  ·cases h
theorem lvt_den : ∀ {ps : List (Bool × List Cv)} {xs : List (Bool × List Lv)}, lvt ps = some xs → ∀ e e', ps.map (compDen e) = (xs.map fun p => (p.1, p.2.map Lv.cv)).map (compDen e')
 | [], xs, h, e, e' => by obtain rfl := Option.some.inj h; rfl
 | p :: ps, xs, h, e, e' => by
  simp only [lvt] at h
  split at h
  ·rename_i x xs' h1 h2
   obtain rfl := Option.some.inj h
   have h3 := lvs_den h1 e e'
   have h4 := lvt_den h2 e e'
   simp only [List.map_cons]
   rw [h4]
   congr 1
   simp only [compDen, densA]
   rw [h3]
  ·cases h
theorem Sv.vv_den {v : Sv} {x : Vv} (h : v.vv = some x) (e e' : Env) : v.den e = x.sv.den e' := by
 cases v with
 | one c =>
  obtain ⟨y, hy, rfl⟩ := Option.map_eq_some_iff.1 h
  exact Cv.lv_den hy e e'
 | agg cs =>
  obtain ⟨y, hy, rfl⟩ := Option.map_eq_some_iff.1 h
  show Value.agg (cs.map _).toArray = Value.agg ((y.map Lv.cv).map _).toArray
  rw [lvs_den hy e e']
 | tup vs =>
  obtain ⟨y, hy, rfl⟩ := Option.map_eq_some_iff.1 h
  show Value.tuple (vs.map _).toArray = Value.tuple ((y.map _).map _).toArray
  rw [lvt_den hy e e']
theorem Lv.cv_free (x : Lv) : x.cv.freeB = true := by cases x <;> rfl
theorem lv_free (xs : List Lv) : (xs.map Lv.cv).all Cv.freeB = true := by
 rw [List.all_eq_true]
 intro c hc
 obtain ⟨x, _, rfl⟩ := List.mem_map.1 hc
 exact Lv.cv_free x
theorem Vv.sv_free (x : Vv) : x.sv.freeB = true := by
 cases x with
 | one x => exact Lv.cv_free x
 | agg xs => exact lv_free xs
 | tup xs =>
  show List.all _ _ = true
  rw [List.all_eq_true]
  intro p hp
  obtain ⟨q, _, rfl⟩ := List.mem_map.1 hp
  exact lv_free q.2
section
variable {P : Program} {tb : Tb}
def res (T : Tree FLeaf) : Option (List Bool × Vv) := match peelF T with
 | some (l, (v, _)) => match v.vv with
  | some x => some (l, x)
  | none => none
 | none => none
theorem res_at {T : Tree FLeaf} {l : List Bool} {x : Vv} (h : res T = some (l, x)) (hl : ∀ b ∈ l, b = true) : ∃ y, T.At y ∧ y.1.vv = some x := by
 unfold res at h
 split at h
 ·rename_i l' v σ hp
  split at h
  ·rename_i x' hx
   obtain ⟨rfl, rfl⟩ := Prod.mk.inj (Option.some.inj h)
   exact ⟨(v, σ), peelF_at hp hl, hx⟩
  ·cases h
 ·cases h
theorem FunOk.val {f : FuncId} {args : List Sv} {σ σ' : St} {v u : Sv} (h : FunOk P f args σ v σ') (hd : ∀ e, v.den e = u.den e) (hu : u.freeB = true) : FunOk P f args σ u σ' := by
 refine ⟨fun C e w hp hs => ?_, h.keep⟩
 refine (h.run C e w hp hs).mono fun en w' => ?_
 rintro ⟨e', h1, h2, rfl, -⟩
 exact ⟨e', h1, h2, by rw [hd e'], Sv.free_sc hu _⟩
theorem res_ok {wf : List FuncId} {sp : FuncId → Option (List Sv → St → Tree FLeaf)} {fuel d f : Nat} (hT : TbOk P tb) (hm : P.follows .mixedOrders = true) (hs : SpOk P sp) {args : List Sv} {σ : St} {l : List Bool} {x : Vv}
  (h : res (evFn tb wf sp fuel d f args σ) = some (l, x)) (hl : ∀ b ∈ l, b = true) : ∃ σ', FunOk P f args σ x.sv σ' := by
 obtain ⟨y, h1, h2⟩ := res_at h hl
 exact ⟨y.2, (evFn_at hT hm hs h1).val (fun e => Sv.vv_den h2 e e) x.sv_free⟩
theorem res_any {wf : List FuncId} {sp : FuncId → Option (List Sv → St → Tree FLeaf)} {fuel d f : Nat} (hT : TbOk P tb) (hm : P.follows .mixedOrders = true) (hs : SpOk P sp) {args : List Sv} (hargs : ∀ x ∈ args, x.freeB = true) {l : List Bool} {x : Vv}
  (h : res (evFn tb wf sp fuel d f args st0) = some (l, x)) (hl : ∀ b ∈ l, b = true) (w : World) (hG : Glob0 w := by exact glob0 w) : Calls P f (args.map (·.den env0)).toArray w fun en w' => en = .returned (x.sv.den env0) ∧ Below w.heap.size w w' := by
 obtain ⟨σ', h1⟩ := res_ok hT hm hs h hl
 exact h1.any hargs x.sv_free w hG
/-! Arguments that are numbers and truth values: the names that stand for them. -/
end
end Sx
end Go.Proofs.YtmpilgkfbibhlaaGreatDoor
namespace Go.Proofs.YtmpilgkfbibhlaaGreatDoor
namespace Sx
open Go.RowKit
section
variable {P : Program} {tb : Tb}
theorem kn_look {σ : St} {id : Nat} : kn (look σ) id ↔ (alook σ.bk id).isSome = true := by
 unfold kn
 simp only [look, Option.isSome_map]
/-! A row that is handed back. -/
end
end Sx
end Go.Proofs.YtmpilgkfbibhlaaGreatDoor
namespace Go.Proofs.YtmpilgkfbibhlaaGreatDoor
namespace Sx
open Go.RowKit
section
variable {P : Program} {tb : Tb}
inductive Pl where
 | t (n : Nat)
 | c (id off : Nat)
def Pl.w : Pl → Cv → Wr
 | .t n, v => .tm n (.one v)
 | .c id off, v => .cell id off v
def Pl.loc : Pl → Loc
 | .t n => .t n
 | .c id off => .c id off
def Pl.lv : Pl → Cv → LV
 | .t _, v => .sv (.one v)
 | .c _ _, v => .cv v
def Pl.rd (σ : St) : Pl → Option Cv
 | .t n => match alook σ.tm n with
  | some (.one z) => some z
  | _ => none
 | .c id off => (alook σ.bk id).bind fun b => b.cell off
abbrev Dom := List (Pl × Lf)
def putW (bs : Nat → Bool) (ns : Nat → Int) : Nat → Dom → List Wr
 | _, [] => []
 | j, (p, l) :: ps => p.w (l.cv bs ns j) :: putW bs ns (j + 1) ps
noncomputable instance : DecidableEq Loc := fun _ _ => Classical.propDecidable _
theorem Pl.w_fn (p : Pl) (v : Cv) (l : Loc) : (p.w v).fn l = if p.loc = l then some (some (p.lv v)) else none := by
 cases p with
 | t n =>
  cases l with
  | t m =>
   by_cases e : m = n
   ·subst e; simp [Pl.w, Wr.fn, Pl.loc, Pl.lv]
   ·simp [Pl.w, Wr.fn, Pl.loc, e, Ne.symm e]
  | _ => simp [Pl.w, Wr.fn, Pl.loc]
 | c id off =>
  cases l with
  | c i o =>
   by_cases e : i = id ∧ o = off
   ·obtain ⟨rfl, rfl⟩ := e; simp [Pl.w, Wr.fn, Pl.loc, Pl.lv]
   ·have e' : ¬ (id = i ∧ off = o) := fun h => e ⟨h.1.symm, h.2.symm⟩
    simp [Pl.w, Wr.fn, Pl.loc, e, e']
  | _ => simp [Pl.w, Wr.fn, Pl.loc]
theorem fns_put (bs : Nat → Bool) (ns : Nat → Int) (l : Loc) : ∀ (d : Dom) (j : Nat), (fns (putW bs ns j d) l = none ∧ ∀ p : Pl × Lf, p ∈ d → p.1.loc ≠ l) ∨ ∃ (i : Nat) (p : Pl) (lf : Lf), d[i]? = some (p, lf) ∧ p.loc = l ∧ fns (putW bs ns j d) l = some (some (p.lv (lf.cv bs ns (j + i))))
 | [], j => Or.inl ⟨rfl, fun p hp => by cases hp⟩
 | (p, lf) :: d, j => by
  rcases fns_put bs ns l d (j + 1) with ⟨h1, h2⟩ | ⟨i, q, lf', h1, h2, h3⟩
  ·by_cases e : p.loc = l
   ·refine Or.inr ⟨0, p, lf, rfl, e, ?_⟩
    simp only [putW, fns, h1, Pl.w_fn, if_pos e, Nat.add_zero]
   ·refine Or.inl ⟨?_, fun q hq => ?_⟩
    ·simp only [putW, fns, h1, Pl.w_fn, if_neg e]
    ·cases hq with
     | head => exact e
     | tail _ hq => exact h2 q hq
  ·refine Or.inr ⟨i + 1, q, lf', by simpa using h1, h2, ?_⟩
   simp only [putW, fns, h3]
   rw [show j + 1 + i = j + (i + 1) by omega]
theorem put_at {bs : Nat → Bool} {ns : Nat → Int} {d : Dom} {s : Sto} {l : Loc} (h : ∃ p : Pl × Lf, p ∈ d ∧ p.1.loc = l) : ∃ (i : Nat) (p : Pl) (lf : Lf), d[i]? = some (p, lf) ∧ p.loc = l ∧ upds s (putW bs ns 0 d) l = some (p.lv (lf.cv bs ns i)) := by
 rw [upds_fns]
 rcases fns_put bs ns l d 0 with ⟨_, h2⟩ | ⟨i, p, lf, h1, h2, h3⟩
 ·obtain ⟨p, hp, e⟩ := h; exact absurd e (h2 p hp)
 ·exact ⟨i, p, lf, h1, h2, by dsimp only; rw [h3, Nat.zero_add]; rfl⟩
end
end Sx
end Go.Proofs.YtmpilgkfbibhlaaGreatDoor
namespace Go.Proofs.YtmpilgkfbibhlaaGreatDoor
namespace Sx
open Go.RowKit
section
variable {P : Program} {tb : Tb}
end
end Sx
end Go.Proofs.YtmpilgkfbibhlaaGreatDoor
