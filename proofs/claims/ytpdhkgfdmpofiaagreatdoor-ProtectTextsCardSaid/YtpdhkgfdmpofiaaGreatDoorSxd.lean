/-
  The state that is reckoned with, and the operations that touch no memory.
-/
import Derived.Test.YtpdhkgfdmpofiaaGreatDoorSxc
set_option linter.unusedSimpArgs false
set_option linter.unusedVariables false
namespace Go.Proofs.YtpdhkgfdmpofiaaGreatDoor
namespace Sx
open Go.RowKit

/-- Ways: a test parts them; a demand must hold. -/
inductive Tree (α : Type) where
  | leaf (x : α)
  | br (b : Bool) (t f : Tree α)
  | must (b : Bool) (t : Tree α)
  | fail
def Tree.bind {α β : Type} : Tree α → (α → Tree β) → Tree β
  | .leaf x, g => g x
  | .br b t f, g => .br b (t.bind g) (f.bind g)
  | .must b t, g => .must b (t.bind g)
  | .fail, _ => .fail
def Tree.All {α : Type} : Tree α → (α → Prop) → Prop
  | .leaf x, p => p x
  | .br b t f, p => (b = true → t.All p) ∧ (b = false → f.All p)
  | .must b t, p => b = true ∧ t.All p
  | .fail, _ => False
theorem Tree.All_bind {α β : Type} {p : β → Prop} {g : α → Tree β} : ∀ {t : Tree α}, (t.bind g).All p ↔ t.All fun x => (g x).All p
  | .leaf x => Iff.rfl
  | .br b t f => by simp only [Tree.bind, Tree.All, Tree.All_bind (t := t), Tree.All_bind (t := f)]
  | .must b t => by simp only [Tree.bind, Tree.All, Tree.All_bind (t := t)]
  | .fail => Iff.rfl
theorem Tree.All.mono {α : Type} {p q : α → Prop} (h : ∀ x, p x → q x) : ∀ {t : Tree α}, t.All p → t.All q
  | .leaf x, k => h x k
  | .br _ _ _, k => ⟨fun hb => (k.1 hb).mono h, fun hb => (k.2 hb).mono h⟩
  | .must _ _, k => ⟨k.1, k.2.mono h⟩
  | .fail, k => k
/-- The way that is gone. -/
theorem Tree.All.way {α : Type} {p : α → Prop} : ∀ {t : Tree α}, t.All p → ∃ x, p x
  | .leaf x, k => ⟨x, k⟩
  | .br b _ _, k => by
    cases b with
    | true => exact (k.1 rfl).way
    | false => exact (k.2 rfl).way
  | .must _ _, k => k.2.way
  | .fail, k => k.elim

def alook {α : Type} : List (Nat × α) → Nat → Option α
  | [], _ => none
  | (k, v) :: l, n => match Nat.beq k n with
    | true => some v
    | false => alook l n
def amod {α : Type} (f : α → α) : List (Nat × α) → Nat → List (Nat × α)
  | [], _ => []
  | (k, v) :: l, n => match Nat.beq k n with
    | true => (k, f v) :: l
    | false => (k, v) :: amod f l n
def adel {α : Type} : List (Nat × α) → Nat → List (Nat × α)
  | [], _ => []
  | (k, v) :: l, n => match Nat.beq k n with
    | true => adel l n
    | false => (k, v) :: adel l n
theorem alook_amod {α : Type} (f : α → α) (l : List (Nat × α)) (n m : Nat) : alook (amod f l n) m = if m = n then (alook l m).map f else alook l m := by
  induction l with
  | nil => simp [alook, amod]
  | cons x l ih =>
    obtain ⟨k, v⟩ := x
    simp only [amod]
    cases h : Nat.beq k n with
    | true =>
      obtain rfl : k = n := Nat.eq_of_beq_eq_true h
      simp only [alook]
      cases h2 : Nat.beq k m with
      | true => obtain rfl : k = m := Nat.eq_of_beq_eq_true h2; simp
      | false => have : m ≠ k := fun e => by subst e; simp at h2
                 simp [this]
    | false =>
      simp only [alook]
      cases h2 : Nat.beq k m with
      | true =>
        obtain rfl : k = m := Nat.eq_of_beq_eq_true h2
        have : k ≠ n := fun e => by subst e; simp at h
        simp [this]
      | false => exact ih
theorem alook_adel {α : Type} (l : List (Nat × α)) (n m : Nat) : alook (adel l n) m = if m = n then none else alook l m := by
  induction l with
  | nil => simp [alook, adel]
  | cons x l ih =>
    obtain ⟨k, v⟩ := x
    simp only [adel]
    cases h : Nat.beq k n with
    | true =>
      obtain rfl : k = n := Nat.eq_of_beq_eq_true h
      simp only [alook]
      rw [ih]
      by_cases e : m = k
      · simp [e]
      · have : Nat.beq k m = false := by cases h2 : Nat.beq k m with
          | false => rfl
          | true => exact absurd (Nat.eq_of_beq_eq_true h2).symm e
        simp [e, this]
    | false =>
      simp only [alook]
      cases h2 : Nat.beq k m with
      | true =>
        obtain rfl : k = m := Nat.eq_of_beq_eq_true h2
        have : k ≠ n := fun e => by subst e; simp at h
        simp [this]
      | false => exact ih

/-- The state: slots, blocks, the next block's name, the names of capacities that are known, the next one, what has been written (the last first), the slots of the function's variables. -/
structure St where
  tm : List (Nat × Sv)
  bk : List (Nat × Blk)
  nx : Nat
  nl : List Nat
  nn : Nat
  lg : List Wr
  vr : List Nat
def memb : List Nat → Nat → Bool
  | [], _ => false
  | x :: l, n => match Nat.beq x n with
    | true => true
    | false => memb l n
def look (σ : St) : Sto
  | .t n => (alook σ.tm n).map .sv
  | .k id => (alook σ.bk id).map fun b => .bk b.info
  | .c id o => (alook σ.bk id).bind fun b => (b.cell o).map .cv
  | .n c => if memb σ.nl c = true then some .nm else none
def lset {α : Type} : List α → Nat → α → List α
  | [], _, _ => []
  | _ :: l, 0, v => v :: l
  | x :: l, n + 1, v => x :: lset l n v
theorem lset_eq {α : Type} : ∀ (l : List α) (n : Nat) (v : α), lset l n v = l.set n v
  | [], _, _ => rfl
  | _ :: _, 0, _ => rfl
  | x :: l, n + 1, v => by simp [lset, lset_eq l n v]
def Blk.setc (off : Nat) (v : Cv) : Blk → Blk
  | .ar t ro cs cp => .ar t ro (lset cs off v) cp
  | b => b
def nmax (a b : Nat) : Nat := match Nat.ble a b with
  | true => b
  | false => a
def St.app (σ : St) (x : Wr) : St := match x with
  | .tm n v => { σ with tm := (n, v) :: σ.tm, lg := x :: σ.lg }
  | .ft n => { σ with tm := adel σ.tm n, lg := x :: σ.lg }
  | .cell id off v => { σ with bk := amod (Blk.setc off v) σ.bk id, lg := x :: σ.lg }
  | .new id b => { σ with bk := (id, b) :: adel σ.bk id, nx := nmax σ.nx (id + 1), lg := x :: σ.lg }
  | .nm c => { σ with nl := c :: σ.nl, nn := nmax σ.nn (c + 1), lg := x :: σ.lg }
def okW (σ : St) : Wr → Bool
  | .cell id off _ => match alook σ.bk id with
    | some (.ar _ _ cs _) => Nat.blt off cs.length
    | _ => false
  | _ => true
theorem blt_iff {a b : Nat} : Nat.blt a b = true ↔ a < b := by unfold Nat.blt; rw [Nat.ble_eq]; exact Iff.rfl
theorem beq_iff' {a b : Nat} : Nat.beq a b = true ↔ a = b := ⟨Nat.eq_of_beq_eq_true, fun h => by subst h; exact Nat.beq_refl _⟩
theorem beq_ff {a b : Nat} : Nat.beq a b = false ↔ a ≠ b := by
  constructor
  · intro h e; subst e; simp at h
  · intro h; cases h2 : Nat.beq a b with
    | false => rfl
    | true => exact absurd (Nat.eq_of_beq_eq_true h2) h
theorem memb_iff {l : List Nat} {n : Nat} : memb l n = true ↔ n ∈ l := by
  induction l with
  | nil => simp [memb]
  | cons x l ih =>
    simp only [memb]
    cases h : Nat.beq x n with
    | true => obtain rfl := beq_iff'.1 h; simp
    | false => have := beq_ff.1 h; simp [ih, Ne.symm this]
theorem look_app {σ : St} {x : Wr} (h : okW σ x = true) : look (σ.app x) = x.upd (look σ) := by
  cases x with
  | tm n v =>
    funext l
    cases l with
    | t m =>
      rw [upd_t]
      simp only [St.app, look, alook]
      cases c : Nat.beq n m with
      | true => obtain rfl := beq_iff'.1 c; simp
      | false => have := beq_ff.1 c; rw [if_neg (Ne.symm this)]
    | _ => rfl
  | ft n =>
    funext l
    cases l with
    | t m =>
      simp only [St.app, look, alook_adel, Wr.upd, Wr.fn]
      by_cases e : m = n
      · rw [if_pos e, if_pos e]; rfl
      · rw [if_neg e, if_neg e]; rfl
    | _ => rfl
  | cell id off v =>
    simp only [okW] at h
    funext l
    cases l with
    | c i o =>
      rw [cell_c]
      simp only [St.app, look, alook_amod]
      by_cases ci : i = id
      · subst ci
        simp only [if_true, true_and]
        cases hb : alook σ.bk i with
        | none => rw [hb] at h; cases h
        | some b =>
          rw [hb] at h
          cases b with
          | ar t ro cs cp =>
            have h' := blt_iff.1 h
            simp only [Option.map_some, Option.bind_some, Blk.setc, Blk.cell, lset_eq]
            rw [List.getElem?_set]
            by_cases co : o = off
            · subst co; simp [h']
            · rw [if_neg (Ne.symm co), if_neg co]
          | _ => cases h
      · rw [if_neg ci, if_neg (fun x => ci x.1)]
    | k i =>
      rw [cell_k]
      simp only [St.app, look, alook_amod]
      by_cases ci : i = id
      · subst ci
        simp only [if_true]
        cases hb : alook σ.bk i with
        | none => rfl
        | some b => cases b <;> simp [Blk.setc, Blk.info, lset_eq]
      · rw [if_neg ci]
    | _ => rfl
  | new id b =>
    funext l
    cases l with
    | k i =>
      rw [new_k]
      simp only [St.app, look, alook]
      by_cases ci : i = id
      · subst ci
        rw [show Nat.beq i i = true from Nat.beq_refl i, if_pos rfl]
        rfl
      · have c2 : Nat.beq id i = false := beq_ff.2 (Ne.symm ci)
        rw [if_neg ci]
        simp only [c2, alook_adel, if_neg ci]
    | c i o =>
      rw [new_c]
      simp only [St.app, look, alook]
      by_cases ci : i = id
      · subst ci
        rw [show Nat.beq i i = true from Nat.beq_refl i, if_pos rfl]
        rfl
      · have c2 : Nat.beq id i = false := beq_ff.2 (Ne.symm ci)
        rw [if_neg ci]
        simp only [c2, alook_adel, if_neg ci]
    | _ => rfl
  | nm c =>
    funext l
    cases l with
    | n d =>
      simp only [St.app, look, Wr.upd, Wr.fn, memb]
      by_cases e : d = c
      · subst e
        rw [show Nat.beq d d = true from Nat.beq_refl d]
        simp
      · have c2 : Nat.beq c d = false := beq_ff.2 (Ne.symm e)
        simp only [c2, if_neg e]
        rfl
    | _ => rfl
/-- All of a list, if each may be. -/
def St.apps : St → List Wr → Option St
  | σ, [] => some σ
  | σ, x :: xs => match okW σ x with
    | true => (σ.app x).apps xs
    | false => none
theorem look_apps {xs : List Wr} : ∀ {σ σ' : St}, σ.apps xs = some σ' → look σ' = upds (look σ) xs := by
  induction xs with
  | nil => intro σ σ' h; obtain rfl : σ = σ' := by simpa [St.apps] using h
           rfl
  | cons x xs ih =>
    intro σ σ' h
    simp only [St.apps] at h
    cases hw : okW σ x with
    | false => rw [hw] at h; cases h
    | true =>
      rw [hw] at h
      rw [ih h, look_app hw]
      rfl

/-- The tables of types and functions that are looked into. -/
structure Tb where
  ty : List (Nat × TypeInfo)
  fn : List (Nat × Func)
  /-- structs and arrays that are held against each other -/
  eq : List Nat
def TyOk (P : Program) : List (Nat × TypeInfo) → Prop
  | [] => True
  | (t, i) :: l => P.types[t]? = some i ∧ TyOk P l
def FnOk (P : Program) : List (Nat × Func) → Prop
  | [] => True
  | (f, g) :: l => (P.funcs[f]? = some g ∧ ∀ args w, (callFunc f args).run P w = .ok (.enter f args) w) ∧ FnOk P l
structure TbOk (P : Program) (tb : Tb) : Prop where
  ty : TyOk P tb.ty
  fn : FnOk P tb.fn
  eq : ∀ t ∈ tb.eq, P.stoodInHeld t = false ∧ P.eqGuardType P.depth t = false
theorem TyOk.at_ {P : Program} : ∀ {l : List (Nat × TypeInfo)}, TyOk P l → ∀ {t i}, alook l t = some i → P.info? t = some i
  | [], _, _, _, h => by cases h
  | (k, v) :: l, hl, t, i, h => by
    simp only [alook] at h
    cases c : Nat.beq k t with
    | true =>
      rw [c] at h
      obtain rfl := beq_iff'.1 c
      obtain rfl : v = i := by simpa using h
      have h1 := hl.1
      have hlt : k < P.types.size := (Array.getElem?_eq_some_iff.1 h1).1
      show Tables.info? _ _ = _
      unfold Tables.info?
      rw [if_pos hlt]
      exact h1
    | false => rw [c] at h; exact TyOk.at_ hl.2 h
theorem FnOk.at_ {P : Program} : ∀ {l : List (Nat × Func)}, FnOk P l → ∀ {f g}, alook l f = some g → P.funcs[f]? = some g ∧ ∀ args w, (callFunc f args).run P w = .ok (.enter f args) w
  | [], _, _, _, h => by cases h
  | (k, v) :: l, hl, f, g, h => by
    simp only [alook] at h
    cases c : Nat.beq k f with
    | true =>
      rw [c] at h
      obtain rfl := beq_iff'.1 c
      obtain rfl : v = g := by simpa using h
      exact hl.1
    | false => rw [c] at h; exact FnOk.at_ hl.2 h
def Tb.info (tb : Tb) (t : Nat) : Option TypeInfo := alook tb.ty t
def Tb.und (tb : Tb) (t : Nat) : Option TypeDesc := match tb.info t with
  | some i => match i.desc with
    | .named _ u => (tb.info u).map (·.desc)
    | d => some d
  | none => none
def Tb.agg (tb : Tb) (t : Nat) : Option Bool := (tb.und t).map fun d => match d with
  | .struct _ => true
  | .array _ _ => true
  | _ => false
theorem TbOk.info {P : Program} {tb : Tb} (h : TbOk P tb) {t : Nat} {i : TypeInfo} (hi : tb.info t = some i) : P.info? t = some i := h.ty.at_ hi
theorem TbOk.und {P : Program} {tb : Tb} (h : TbOk P tb) {t : Nat} {d : TypeDesc} (hd : tb.und t = some d) : P.underlying t = some d := by
  unfold Tb.und at hd
  unfold Program.underlying
  cases hi : tb.info t with
  | none => rw [hi] at hd; cases hd
  | some i =>
    rw [hi] at hd
    rw [h.info hi]
    obtain ⟨dd, _, _, _, _, _, _, _, _, _⟩ := i
    cases dd <;> first
      | exact hd
      | (rename_i nm u
         simp only [] at hd ⊢
         cases hu : tb.info u with
         | none => rw [hu] at hd; cases hd
         | some j => rw [hu] at hd; rw [h.info hu]; exact hd)
theorem run_und {P : Program} {tb : Tb} (h : TbOk P tb) {t : Nat} {d : TypeDesc} (hd : tb.und t = some d) (w : World) : (underlying t).run P w = .ok d w := run_underlying (h.und hd) w
theorem run_info {P : Program} {tb : Tb} (h : TbOk P tb) {t : Nat} {i : TypeInfo} (hi : tb.info t = some i) (w : World) : (typeInfo t).run P w = .ok i w := by
  simp [typeInfo, h.info hi]
theorem run_size {P : Program} {tb : Tb} (h : TbOk P tb) {t : Nat} {i : TypeInfo} (hi : tb.info t = some i) (w : World) : (sizeOf t).run P w = .ok i.size w := by
  simp [sizeOf, run_info h hi]
theorem run_agg {P : Program} {tb : Tb} (h : TbOk P tb) {t : Nat} {b : Bool} (hb : tb.agg t = some b) (w : World) : (isAgg t).run P w = .ok b w := by
  unfold Tb.agg at hb
  obtain ⟨d, hd, rfl⟩ := Option.map_eq_some_iff.1 hb
  unfold isAgg
  rw [Sem.run_bind, run_und h hd]
  cases d <;> rfl
theorem run_zero {P : Program} {tb : Tb} (h : TbOk P tb) {t : Nat} {i : TypeInfo} {v : Value} (hi : tb.info t = some i) (hz : i.zero = some v) (w : World) : (zeroValue t).run P w = .ok v w := by
  simp [zeroValue, run_info h hi, hz]

/-! Values that stand written in the program. -/
def Cv.ofL (l : Bool) : Value → Cv
  | .bool x => .b x l
  | .int k n => .i k n l
  | .string x => .s x l
  | x => .val x
theorem Cv.ofL_den (l : Bool) (v : Value) (e : Env) : (Cv.ofL l v).den e = v := by cases v <;> rfl
theorem Cv.ofL_sc (l : Bool) (v : Value) (s : Sto) : (Cv.ofL l v).sc s := by cases v <;> trivial
def Sv.ofV : Value → Sv
  | .agg cs => .agg (cs.toList.map (Cv.ofL true))
  | .tuple vs => match vs.toList with
    | [] => .tup []
    | _ => .one (.val (.tuple vs))
  | v => .one (Cv.ofL true v)
theorem densA_ofL (l : Bool) (cs : List Value) (e : Env) : densA e (cs.map (Cv.ofL l)) = cs.toArray := by
  unfold densA
  rw [List.map_map]
  congr 1
  conv => rhs; rw [← List.map_id cs]
  exact List.map_congr_left fun v _ => Cv.ofL_den l v e
theorem Sv.ofV_den (v : Value) (e : Env) : (Sv.ofV v).den e = v := by
  cases v with
  | agg cs => simp only [Sv.ofV, Sv.den]; rw [densA_ofL]
  | tuple vs =>
    obtain ⟨vs⟩ := vs
    cases vs <;> rfl
  | _ => rfl
theorem Sv.ofV_sc (v : Value) (s : Sto) : (Sv.ofV v).sc s := by
  cases v with
  | agg cs =>
    intro c hc
    obtain ⟨x, _, rfl⟩ := List.mem_map.1 hc
    exact Cv.ofL_sc _ _ _
  | tuple vs =>
    obtain ⟨vs⟩ := vs
    cases vs with
    | nil => intro p hp; cases hp
    | cons _ _ => exact trivial
  | _ => trivial

def evO (σ : St) : Operand → Option Sv
  | .tmp t => alook σ.tm t
  | .const v => some (.ofV v)
  | .global g => some (.one (.val (.pointer (some ⟨g, 0, none⟩))))
  | .func f => some (.one (.fn (.func f) []))
/-- What an operand comes to, in a frame that agrees with the state on the slots that are looked at. -/
def Sees (σ : St) (s : Sto) (e : Env) (a : Act) (x : Operand) : Prop := ∀ v, evO σ x = some v → a.eval x = v.den e ∧ v.sc s
theorem sees_of {C : Ctx} {N : Nat} {e : Env} {s : Sto} {a : Act} {w : World} {σ : St} (h : Rel C N e s a w) {x : Operand} (hx : ∀ t, x = .tmp t → s (.t t) = look σ (.t t)) : Sees σ s e a x := by
  intro v hv
  cases x with
  | tmp t =>
    have h1 := hx t rfl
    simp only [look] at h1
    rw [show alook σ.tm t = some v from hv] at h1
    obtain ⟨_, h2, h3⟩ := h.tm t v h1
    exact ⟨h2, h3⟩
  | const v' =>
    obtain rfl : Sv.ofV v' = v := by simpa [evO] using hv
    exact ⟨(Sv.ofV_den v' e).symm, Sv.ofV_sc v' s⟩
  | global g =>
    obtain rfl : _ = v := by simpa [evO] using hv
    exact ⟨rfl, trivial⟩
  | func f =>
    obtain rfl : _ = v := by simpa [evO] using hv
    exact ⟨rfl, fun p hp => by cases hp⟩

/-- What an operation does: its value (none: it has none), the places of memory that it looks at, what it writes there. -/
structure OpE where
  val : Option Sv
  rl : List Loc
  ws : List Wr
def ValIs (e : Env) (s : Sto) : Option Sv → Next → Prop
  | some v, nx => nx = .value (v.den e) ∧ v.sc s
  | none, nx => nx = .skip
def OpOk (P : Program) (σ : St) (o : Oper) (E : OpE) : Prop :=
  ∀ (C : Ctx) (e : Env) (s : Sto) (a : Act) (w : World), Hp C e s w → (∀ x ∈ o.op.operands, Sees σ s e a x) → (∀ l ∈ E.rl, s l = look σ l) →
    ∃ nx e' w', (execOp a.eval o).run P w = .ok nx w' ∧ Agree s e e' ∧ Hp C e' (upds s E.ws) w' ∧ ValIs e' (upds s E.ws) E.val nx
/-- An operation that leaves the world alone. -/
theorem OpOk.pure {P : Program} {σ : St} {o : Oper} {v : Sv} {rl : List Loc}
    (h : ∀ (C : Ctx) (e : Env) (s : Sto) (a : Act) (w : World), Hp C e s w → (∀ x ∈ o.op.operands, Sees σ s e a x) → (∀ l ∈ rl, s l = look σ l) → (execOp a.eval o).run P w = .ok (.value (v.den e)) w ∧ v.sc s) : OpOk P σ o ⟨some v, rl, []⟩ := by
  intro C e s a w hp hx hl
  obtain ⟨h1, h2⟩ := h C e s a w hp hx hl
  exact ⟨_, e, w, h1, Agree.refl _ _, hp, rfl, h2⟩
def TreeOk (P : Program) (σ : St) (o : Oper) (t : Tree OpE) : Prop := ∀ Φ : OpE → Prop, t.All Φ → ∃ E, Φ E ∧ OpOk P σ o E
theorem TreeOk.leaf {P : Program} {σ : St} {o : Oper} {E : OpE} (h : OpOk P σ o E) : TreeOk P σ o (.leaf E) := fun _ hΦ => ⟨E, hΦ, h⟩
theorem TreeOk.fail {P : Program} {σ : St} {o : Oper} : TreeOk P σ o .fail := fun _ hΦ => hΦ.elim
theorem TreeOk.must {P : Program} {σ : St} {o : Oper} {b : Bool} {t : Tree OpE} (h : b = true → TreeOk P σ o t) : TreeOk P σ o (.must b t) := fun Φ hΦ => h hΦ.1 Φ hΦ.2
/-- A demand; one that stands written out is looked at here. -/
def mustL {α : Type} (l b : Bool) (t : Tree α) : Tree α := match l with
  | true => match b with
    | true => t
    | false => .fail
  | false => .must b t
theorem TreeOk.mustL {P : Program} {σ : St} {o : Oper} {l b : Bool} {t : Tree OpE} (h : b = true → TreeOk P σ o t) : TreeOk P σ o (mustL l b t) := by
  cases l with
  | true => cases b with
    | true => exact h rfl
    | false => exact TreeOk.fail
  | false => exact TreeOk.must h
theorem TreeOk.br {P : Program} {σ : St} {o : Oper} {b : Bool} {t f : Tree OpE} (ht : b = true → TreeOk P σ o t) (hf : b = false → TreeOk P σ o f) : TreeOk P σ o (.br b t f) := fun Φ hΦ => by
  cases hb : b with
  | true => exact ht hb Φ (hΦ.1 hb)
  | false => exact hf hb Φ (hΦ.2 hb)
def valT (v : Sv) : Tree OpE := .leaf ⟨some v, [], []⟩
def optT : Option (Tree OpE) → Tree OpE
  | some t => t
  | none => .fail
theorem TreeOk.opt {P : Program} {σ : St} {o : Oper} {t : Option (Tree OpE)} (h : ∀ x, t = some x → TreeOk P σ o x) : TreeOk P σ o (optT t) := by
  cases t with
  | none => exact TreeOk.fail
  | some x => exact h x rfl

/-! What asks nothing of the program and touches no memory. -/
def prS {α : Type} : Sem α → Option α
  | .pure a => some a
  | _ => none
theorem prS_run {α : Type} {x : Sem α} {a : α} (h : prS x = some a) (P : Program) (w : World) : x.run P w = .ok a w := by
  cases x with
  | pure b => obtain rfl : b = a := by simpa [prS] using h
              rfl
  | _ => cases h
/-- A value without a name in it; whether it stands written out. -/
def Sv.pv : Sv → Option (Value × Bool)
  | .one (.b v l) => some (.bool v, l)
  | .one (.i k n l) => some (.int k n, l)
  | .one (.s v l) => some (.string v, l)
  | .one (.val v) => some (v, true)
  | _ => none
theorem Sv.pv_den {v : Sv} {x : Value} {l : Bool} (h : v.pv = some (x, l)) (e : Env) : v.den e = x := by
  cases v with
  | one c => cases c <;> simp [Sv.pv] at h <;> first | exact h.1 | (obtain ⟨rfl, _⟩ := h; rfl)
  | _ => cases h
end Sx
end Go.Proofs.YtpdhkgfdmpofiaaGreatDoor
