/-
  Code: what runs one behind the other, tests, blocks, loops.
-/
import Derived.Test.YtladkknbkgomfaaG12Plant
import Derived.LoopN
import Derived.Below
import Derived.ProofKit
import Derived.OpenShut
import Derived.WideShapes
import Derived.Test.YtladkknbkgomfaaProg
import Derived.KernelRfl
set_option linter.unusedSimpArgs false
set_option linter.unusedVariables false
namespace Go.Proofs.Ytladkknbkgomfaa
namespace Sx
open Go.RowKit

section
variable {P : Program} {tb : Tb}

inductive It where
  | code (c : Code)
  | blk (id : Nat)
inductive Out where
  | normal
  | exit (id : Nat)
  | ret
  | stop (k : List It)
def stackPost (P : Program) (Q : Exit → Act → World → Prop) : List It → Exit → Act → World → Prop
  | [] => Q
  | .code c :: k => Exit.then (fun a w => c.wp P (stackPost P Q k) a w) (stackPost P Q k)
  | .blk id :: k => Exit.inBlock id (stackPost P Q k)
theorem stackPost_append (Q : Exit → Act → World → Prop) (k k' : List It) : stackPost P Q (k ++ k') = stackPost P (stackPost P Q k') k := by
  induction k with
  | nil => rfl
  | cons x k ih => cases x <;> simp only [List.cons_append, stackPost, ih]
def Post (P : Program) (Q : Exit → Act → World → Prop) : Out → Act → World → Prop
  | .normal => Q .normal
  | .exit id => Q (.exit id)
  | .ret => Q .ret
  | .stop k => stackPost P Q k .normal
abbrev Leaf := Out × St
def CodeOk (P : Program) (N : Nat) (σ : St) (c : Code) (x : Leaf) : Prop :=
  ∀ (C : Ctx) (e : Env) (a : Act) (w : World) (Q : Exit → Act → World → Prop), Rel C N e (look σ) a w → (∀ e' a' w', Rel C N e' (look x.2) a' w' → Post P Q x.1 a' w') → c.wp P Q a w

/-! Ways that meet again. -/
/-- What stands in a store is known there. -/
structure WS (s : Sto) : Prop where
  tm : ∀ t v, s (.t t) = some (.sv v) → v.sc s
  cl : ∀ id off v, s (.c id off) = some (.cv v) → v.sc s ∧ ∃ t ro n cp, s (.k id) = some (.bk (.ar t ro n cp)) ∧ off < n
  cp : ∀ id b c es, s (.k id) = some (.bk b) → b.cp = some (c, es) → knn s c
theorem Rel.ws {C : Ctx} {N : Nat} {e : Env} {s : Sto} {a : Act} {w : World} (h : Rel C N e s a w) : WS s :=
  ⟨fun t v ht => (h.tm t v ht).2.2, fun id off v hv => ⟨(h.hp.cl id off v hv).1, (h.hp.cl id off v hv).2.1⟩, fun id b c es hb hc => (h.hp.cp id b c es hb hc).1⟩
/-- s' says no more than s. -/
structure Wk (s s' : Sto) : Prop where
  tm : ∀ t v, s' (.t t) = some (.sv v) → (∃ u, s (.t t) = some (.sv u) ∧ ∀ e, v.den e = u.den e) ∧ v.sc s'
  cl : ∀ id off v, s' (.c id off) = some (.cv v) → (∃ u, s (.c id off) = some (.cv u) ∧ ∀ e, v.den e = u.den e) ∧ v.sc s' ∧ ∃ t ro n cp, s' (.k id) = some (.bk (.ar t ro n cp)) ∧ off < n
  k : ∀ id b, s' (.k id) = some (.bk b) → b.live = true → s (.k id) = some (.bk b)
  cp : ∀ id b c es, s' (.k id) = some (.bk b) → b.cp = some (c, es) → knn s' c
theorem Hp.wk {C : Ctx} {e : Env} {s s' : Sto} {w : World} (h : Hp C e s w) (k : Wk s s') (hpin : (∀ id p, C.pin id = some p → kn s' id) ∧ ∀ c m, C.pinn c = some m → knn s' c) : Hp C e s' w := by
  have rl : ∀ b : BI, b.rw = true → b.live = true := fun b hb => by cases b <;> first | rfl | cases hb
  refine ⟨h.new, ?_, ?_, ?_, ?_, ?_, ?_, ?_, ⟨fun id p hp => ⟨(h.pin.1 id p hp).1, hpin.1 id p hp⟩, fun c m hm => ⟨(h.pin.2 c m hm).1, hpin.2 c m hm⟩⟩, h.fr⟩
  · intro id off v hv
    obtain ⟨⟨u, hu, hd⟩, h2, h3⟩ := k.cl id off v hv
    exact ⟨h2, h3, (h.cl id off u hu).2.2.trans (by rw [hd])⟩
  · intro id t n cp hb; exact h.ar id t n cp (k.k id _ hb rfl)
  · intro id t ro n f cp hb; exact h.oq id t ro n f cp (k.k id _ hb rfl)
  · intro id b c es hb hc
    have hl : b.live = true := by cases b <;> first | rfl | cases hc
    exact ⟨k.cp id b c es hb hc, (h.cp id b c es (k.k id b hb hl) hc).2⟩
  · intro id id' b b' h1 h2 h3 h4; exact h.inj id id' b b' (k.k id b h1 (rl b h3)) (k.k id' b' h2 h4) h3 h4
  · intro id b h1 h2; exact h.lt id b (k.k id b h1 h2) h2
  · intro id b h1 h2; exact h.mu id b (k.k id b h1 (rl b h2)) h2
theorem Rel.wk {C : Ctx} {N : Nat} {e : Env} {s s' : Sto} {a : Act} {w : World} (h : Rel C N e s a w) (k : Wk s s') (hpin : (∀ id p, C.pin id = some p → kn s' id) ∧ ∀ c m, C.pinn c = some m → knn s' c) : Rel C N e s' a w := by
  refine ⟨h.sz, h.df, ?_, h.hp.wk k hpin⟩
  intro t v ht
  obtain ⟨⟨u, hu, hd⟩, h2⟩ := k.tm t v ht
  obtain ⟨h3, h4, _⟩ := h.tm t u hu
  exact ⟨h3, h4.trans (hd e).symm, h2⟩

def newL (σ x : St) : List Wr := x.lg.take (x.lg.length - σ.lg.length)
theorem newL_ext {σ x : St} (h : Ext σ x) : ∃ ws, σ.apps ws = some x ∧ newL σ x = ws.reverse := by
  obtain ⟨ws, h1, h2⟩ := h
  refine ⟨ws, h1, ?_⟩
  unfold newL
  rw [h2]
  simp
def tmD : List Wr → List Nat → List Nat
  | [], acc => acc
  | .tm n _ :: l, acc => tmD l (bif memb acc n then acc else n :: acc)
  | .ft n :: l, acc => tmD l (bif memb acc n then acc else n :: acc)
  | _ :: l, acc => tmD l acc
def memb2 : List (Nat × Nat) → Nat → Nat → Bool
  | [], _, _ => false
  | (a, b) :: l, n, m => match Nat.beq a n && Nat.beq b m with
    | true => true
    | false => memb2 l n m
/-- The cells of blocks of σ that are written. -/
def clD (σ : St) : List Wr → List (Nat × Nat) → List (Nat × Nat)
  | [], acc => acc
  | .cell id off _ :: l, acc => clD σ l (bif memb2 acc id off then acc else match alook σ.bk id with
    | some _ => (id, off) :: acc
    | none => acc)
  | _ :: l, acc => clD σ l acc
/-- No block of σ is laid anew. -/
def noNew (σ : St) : List Wr → Bool
  | [] => true
  | .new id _ :: l => match alook σ.bk id with
    | some _ => false
    | none => noNew σ l
  | _ :: l => noNew σ l
def mTm (b : Bool) (x y : St) (t : Nat) : Wr := match alook x.tm t, alook y.tm t with
  | some v, some u => match Sv.ite b v u with
    | some z => .tm t z
    | none => .ft t
  | _, _ => .ft t
def cellAt (x : St) (id off : Nat) : Option Cv := (alook x.bk id).bind fun b => b.cell off
def mCl (b : Bool) (x y : St) : List (Nat × Nat) → Option (List Wr)
  | [] => some []
  | (id, off) :: l => match cellAt x id off, cellAt y id off, mCl b x y l with
    | some c, some d, some ws => match Cv.ite b c d with
      | some z => some (.cell id off z :: ws)
      | none => none
    | _, _, _ => none
def merge0 (σ : St) (b : Bool) (x y : St) : Option St :=
  let lx := newL σ x
  let ly := newL σ y
  match noNew σ lx && noNew σ ly with
  | true => match mCl b x y (clD σ ly (clD σ lx [])) with
    | some ws => fL fWr ((tmD ly (tmD lx [])).map (mTm b x y) ++ ws) fun ws => fapps ws σ id
    | none => none
  | false => none
theorem merge_eq {σ : St} {b : Bool} {x y : St} : merge0 σ b x y = match noNew σ (newL σ x) && noNew σ (newL σ y) with
    | true => match mCl b x y (clD σ (newL σ y) (clD σ (newL σ x) [])) with
      | some ws => σ.apps ((tmD (newL σ y) (tmD (newL σ x) [])).map (mTm b x y) ++ ws)
      | none => none
    | false => none := by
  simp only [merge0, fL_fWr, fapps_eq, id]
/-- Two numbers that stand written out, and differ. -/
def litNe : Sv → Sv → Bool
  | .one (.i _ x true), .one (.i _ y true) => !(x == y)
  | _, _ => false
/-- No variable that both ways know is lost. -/
def okTm (σ : St) (b : Bool) (x y : St) : List Nat → Bool
  | [] => true
  | t :: l => match memb σ.vr t with
    | false => okTm σ b x y l
    | true => match alook x.tm t, alook y.tm t with
      | some v, some u => match Sv.ite b v u with
        | some _ => match memb σ.vr (t + 100000) with
          | true => match litNe v u with
            | true => false
            | false => okTm σ b x y l
          | false => okTm σ b x y l
        | none => false
      | _, _ => okTm σ b x y l
def merge (lo : Bool) (σ : St) (b : Bool) (x y : St) : Option St := match lo with
  | true => merge0 σ b x y
  | false => match okTm σ b x y (tmD (newL σ y) (tmD (newL σ x) [])) with
    | true => merge0 σ b x y
    | false => none
theorem merge_some {lo : Bool} {σ m x y : St} {b : Bool} (h : merge lo σ b x y = some m) : merge0 σ b x y = some m := by
  unfold merge at h
  split at h
  · exact h
  · split at h
    · exact h
    · cases h

theorem mem_tmD {n : Nat} : ∀ {l : List Wr} {acc : List Nat}, n ∈ acc ∨ (∃ v, Wr.tm n v ∈ l) ∨ Wr.ft n ∈ l → n ∈ tmD l acc
  | [], acc, h => by
    rcases h with h | ⟨v, h⟩ | h
    · exact h
    · cases h
    · cases h
  | x :: l, acc, h => by
    have put : ∀ m, n ∈ acc ∨ n = m → n ∈ (bif memb acc m then acc else m :: acc) := by
      intro m hm
      cases hb : memb acc m with
      | true =>
        rcases hm with hm | rfl
        · exact hm
        · exact memb_iff.1 hb
      | false =>
        rcases hm with hm | rfl
        · exact List.mem_cons_of_mem _ hm
        · exact List.mem_cons_self
    cases x with
    | tm m u =>
      refine mem_tmD (l := l) ?_
      rcases h with h | ⟨v, h⟩ | h
      · exact Or.inl (put m (Or.inl h))
      · cases h with
        | head => exact Or.inl (put n (Or.inr rfl))
        | tail _ h => exact Or.inr (Or.inl ⟨v, h⟩)
      · cases h with
        | tail _ h => exact Or.inr (Or.inr h)
    | ft m =>
      refine mem_tmD (l := l) ?_
      rcases h with h | ⟨v, h⟩ | h
      · exact Or.inl (put m (Or.inl h))
      · cases h with
        | tail _ h => exact Or.inr (Or.inl ⟨v, h⟩)
      · cases h with
        | head => exact Or.inl (put n (Or.inr rfl))
        | tail _ h => exact Or.inr (Or.inr h)
    | _ =>
      refine mem_tmD (l := l) ?_
      rcases h with h | ⟨v, h⟩ | h
      · exact Or.inl h
      · cases h with
        | tail _ h => exact Or.inr (Or.inl ⟨v, h⟩)
      · cases h with
        | tail _ h => exact Or.inr (Or.inr h)
theorem memb2_iff {l : List (Nat × Nat)} {n m : Nat} : memb2 l n m = true ↔ (n, m) ∈ l := by
  induction l with
  | nil => simp [memb2]
  | cons x l ih =>
    obtain ⟨a, b⟩ := x
    simp only [memb2]
    cases h : (Nat.beq a n && Nat.beq b m) with
    | true =>
      rw [Bool.and_eq_true, beq_iff', beq_iff'] at h
      obtain ⟨rfl, rfl⟩ := h
      simp
    | false =>
      simp only [ih, List.mem_cons, Prod.mk.injEq]
      constructor
      · exact Or.inr
      · rintro (⟨rfl, rfl⟩ | h')
        · simp at h
        · exact h'
theorem mem_clD {σ : St} {id off : Nat} (hk : (alook σ.bk id).isSome = true) : ∀ {l : List Wr} {acc : List (Nat × Nat)}, (id, off) ∈ acc ∨ (∃ v, Wr.cell id off v ∈ l) → (id, off) ∈ clD σ l acc
  | [], acc, h => by
    rcases h with h | ⟨v, h⟩
    · exact h
    · cases h
  | x :: l, acc, h => by
    cases x with
    | cell i o u =>
      refine mem_clD hk (l := l) ?_
      have put : (id, off) ∈ acc ∨ (id = i ∧ off = o) → (id, off) ∈ (bif memb2 acc i o then acc else match alook σ.bk i with | some _ => (i, o) :: acc | none => acc) := by
        intro hm
        cases hb : memb2 acc i o with
        | true =>
          rcases hm with hm | ⟨rfl, rfl⟩
          · exact hm
          · exact memb2_iff.1 hb
        | false =>
          simp only [cond_false]
          rcases hm with hm | ⟨rfl, rfl⟩
          · split
            · exact List.mem_cons_of_mem _ hm
            · exact hm
          · obtain ⟨z, hz⟩ := Option.isSome_iff_exists.1 hk
            rw [hz]
            exact List.mem_cons_self
      rcases h with h | ⟨v, h⟩
      · exact Or.inl (put (Or.inl h))
      · cases h with
        | head => exact Or.inl (put (Or.inr ⟨rfl, rfl⟩))
        | tail _ h => exact Or.inr ⟨v, h⟩
    | _ =>
      refine mem_clD hk (l := l) ?_
      rcases h with h | ⟨v, h⟩
      · exact Or.inl h
      · cases h with
        | tail _ h => exact Or.inr ⟨v, h⟩
theorem noNew_at {σ : St} {id : Nat} {b : Blk} : ∀ {l : List Wr}, noNew σ l = true → Wr.new id b ∈ l → alook σ.bk id = none
  | [], _, h => by cases h
  | x :: l, hn, h => by
    cases x with
    | new i c =>
      simp only [noNew] at hn
      split at hn
      · cases hn
      · rename_i hi
        cases h with
        | head => exact hi
        | tail _ h => exact noNew_at hn h
    | _ =>
      cases h with
      | tail _ h => exact noNew_at (l := l) hn h
theorem mCl_at {b : Bool} {x y : St} : ∀ {l : List (Nat × Nat)} {ws : List Wr}, mCl b x y l = some ws → (∀ z ∈ ws, ∃ id off c d e, z = .cell id off e ∧ cellAt x id off = some c ∧ cellAt y id off = some d ∧ Cv.ite b c d = some e) ∧ ∀ p ∈ l, ∃ e, Wr.cell p.1 p.2 e ∈ ws
  | [], ws, h => by
    obtain rfl := Option.some.inj h
    exact ⟨(fun z hz => absurd hz (by simp)), (fun p hp => absurd hp (by simp))⟩
  | (id, off) :: l, ws, h => by
    simp only [mCl] at h
    split at h
    · rename_i c d ws' hc hd hw
      split at h
      · rename_i e he
        obtain rfl := Option.some.inj h
        obtain ⟨r1, r2⟩ := mCl_at hw
        refine ⟨fun z hz => ?_, fun p hp => ?_⟩
        · cases hz with
          | head => exact ⟨id, off, c, d, e, rfl, hc, hd, he⟩
          | tail _ hz => exact r1 z hz
        · cases hp with
          | head => exact ⟨e, List.mem_cons_self⟩
          | tail _ hp => obtain ⟨e', he'⟩ := r2 p hp; exact ⟨e', List.mem_cons_of_mem _ he'⟩
      · cases h
    · cases h
/-- A place that nothing in a list writes. -/
theorem upds_same {s : Sto} {l : Loc} {ws : List Wr} (h : ∀ x ∈ ws, x.fn l = none) : upds s ws l = s l := by
  rw [upds_fns]
  have : fns ws l = none := by
    cases hf : fns ws l with
    | none => rfl
    | some y =>
      obtain ⟨x, hx, hx2⟩ := fns_some (ws := ws) (l := l) (by rw [hf]; rfl)
      rw [h x hx] at hx2; cases hx2
  show (fns ws l).getD (s l) = s l
  rw [this]; rfl
/-- A place that is written: by the last that does. -/
theorem upds_one {s : Sto} {l : Loc} {v : Option LV} {ws : List Wr} (hx : ∃ x ∈ ws, (x.fn l).isSome = true) (h : ∀ x ∈ ws, x.fn l = none ∨ x.fn l = some v) : upds s ws l = v := by
  rw [upds_fns]
  have : fns ws l = some v := by
    induction ws with
    | nil => obtain ⟨x, hx, _⟩ := hx; cases hx
    | cons y ws ih =>
      simp only [fns]
      cases hf : fns ws l with
      | some z =>
        have h' := fns_some (ws := ws) (l := l) (by rw [hf]; rfl)
        have := ih h' fun x hx => h x (List.mem_cons_of_mem _ hx)
        rw [hf] at this; exact this
      | none =>
        simp only []
        rcases h y List.mem_cons_self with h1 | h1
        · obtain ⟨x, hxm, hx2⟩ := hx
          cases hxm with
          | head => rw [h1] at hx2; cases hx2
          | tail _ hxm =>
            exfalso
            have : (fns ws l).isSome = true := by
              clear ih h
              induction ws with
              | nil => cases hxm
              | cons z ws ih2 =>
                simp only [fns]
                cases hf2 : fns ws l with
                | some _ => rfl
                | none =>
                  cases hxm with
                  | head => exact hx2
                  | tail _ hxm =>
                    simp only [fns, hf2] at hf
                    have := ih2 hf2 hxm
                    rw [hf2] at this; cases this
            rw [hf] at this; cases this
        · exact h1
  show (fns ws l).getD (s l) = v
  rw [this]; rfl
theorem mTm_tm {b : Bool} {x y : St} {t n : Nat} {r : Sv} (h : mTm b x y t = .tm n r) : ∃ p q, alook x.tm t = some p ∧ alook y.tm t = some q ∧ Sv.ite b p q = some r := by
  unfold mTm at h
  cases hp : alook x.tm t with
  | none => rw [hp] at h; cases h
  | some p =>
    cases hq : alook y.tm t with
    | none => rw [hp, hq] at h; cases h
    | some q =>
      rw [hp, hq] at h
      cases hr : Sv.ite b p q with
      | none => simp only [hr] at h; cases h
      | some r' =>
        simp only [hr] at h
        obtain ⟨_, rfl⟩ : t = n ∧ r' = r := by simpa using h
        exact ⟨p, q, rfl, rfl, hr⟩
theorem look_c_k {σ : St} {id off : Nat} {v : LV} (h : look σ (.c id off) = some v) : ∃ t ro n cp, look σ (.k id) = some (.bk (.ar t ro n cp)) ∧ off < n := by
  simp only [look] at h ⊢
  cases hb : alook σ.bk id with
  | none => rw [hb] at h; cases h
  | some b =>
    rw [hb] at h
    cases b with
    | ar t ro cs cp =>
      simp only [Option.bind_some, Blk.cell] at h
      refine ⟨t, ro, cs.length, cp, rfl, ?_⟩
      obtain ⟨c, hc, _⟩ := Option.map_eq_some_iff.1 h
      exact (List.getElem?_eq_some_iff.1 hc).1
    | oq t ro n f cp => cases h
    | gone => cases h
theorem look_k_c {σ : St} {id off n : Nat} {t : TypeId} {ro : Bool} {cp : Option (Nat × Nat)} (h : look σ (.k id) = some (.bk (.ar t ro n cp))) (ho : off < n) : ∃ c, look σ (.c id off) = some (.cv c) := by
  simp only [look] at h ⊢
  cases hb : alook σ.bk id with
  | none => rw [hb] at h; cases h
  | some b =>
    rw [hb] at h
    cases b with
    | ar t' ro' cs cp' =>
      simp only [Option.map_some, Blk.info, Option.some.injEq, LV.bk.injEq, BI.ar.injEq] at h
      obtain ⟨_, _, rfl, _⟩ := h
      exact ⟨cs[off], by simp [Blk.cell, ho]⟩
    | oq t' ro' n' f cp' => simp [Blk.info] at h
    | gone => simp [Blk.info] at h
theorem merge_wk {σ m x y : St} {b : Bool} (hws : WS (look σ)) (hx : Ext σ x) (hy : Ext σ y) (h : merge0 σ b x y = some m) (z : St) (hz : z = if b = true then x else y) : Wk (look z) (look m) ∧ Ext σ m ∧ Sub (look σ) (look m) := by
  rw [merge_eq] at h
  split at h
  · rename_i hnn
    rw [Bool.and_eq_true] at hnn
    split at h
    · rename_i ws hcl
      obtain ⟨wx, ax, lx⟩ := newL_ext hx
      obtain ⟨wy, ay, ly⟩ := newL_ext hy
      rw [lx, ly] at hnn hcl h
      obtain ⟨c1, c2⟩ := mCl_at hcl
      have hm := look_apps h
      generalize hT : tmD wy.reverse (tmD wx.reverse []) = T at *
      have hzs : ∃ wz, σ.apps wz = some z ∧ noNew σ wz.reverse = true ∧ (∀ n, (∃ v, Wr.tm n v ∈ wz) ∨ Wr.ft n ∈ wz → n ∈ T) ∧ ∀ id off v, (alook σ.bk id).isSome = true → Wr.cell id off v ∈ wz → (id, off) ∈ clD σ wy.reverse (clD σ wx.reverse []) := by
        cases b with
        | true =>
          obtain rfl : z = x := by simpa using hz
          refine ⟨wx, ax, hnn.1, fun n hn => ?_, fun id off v hk hv => mem_clD hk (Or.inl (mem_clD hk (Or.inr ⟨v, by simpa using hv⟩)))⟩
          rw [← hT]
          refine mem_tmD (Or.inl (mem_tmD (Or.inr ?_)))
          simpa using hn
        | false =>
          obtain rfl : z = y := by simpa using hz
          refine ⟨wy, ay, hnn.2, fun n hn => ?_, fun id off v hk hv => mem_clD hk (Or.inr ⟨v, by simpa using hv⟩)⟩
          rw [← hT]
          refine mem_tmD (Or.inr ?_)
          simpa using hn
      obtain ⟨wz, az, nz, tz, cz⟩ := hzs
      have lz := look_apps az
      -- what the merged state says of blocks and names is what σ says
      have mk : ∀ id, look m (.k id) = look σ (.k id) := by
        intro id; rw [hm]
        refine upds_same fun u hu => ?_
        rcases List.mem_append.1 hu with hu | hu
        · obtain ⟨t, _, rfl⟩ := List.mem_map.1 hu
          unfold mTm; split
          · split <;> rfl
          · rfl
        · obtain ⟨i, o, c, d, e, rfl, _⟩ := c1 u hu; rfl
      have mn : ∀ c, look m (.n c) = look σ (.n c) := by
        intro c; rw [hm]
        refine upds_same fun u hu => ?_
        rcases List.mem_append.1 hu with hu | hu
        · obtain ⟨t, _, rfl⟩ := List.mem_map.1 hu
          unfold mTm; split
          · split <;> rfl
          · rfl
        · obtain ⟨i, o, c, d, e, rfl, _⟩ := c1 u hu; rfl
      have hS : Sub (look σ) (look m) := ⟨fun id h => by unfold kn; rw [mk]; exact h, fun c h => by unfold knn; rw [mn]; exact h⟩
      have zk : ∀ id, (alook σ.bk id).isSome = true → look z (.k id) = look σ (.k id) := by
        intro id hid; rw [lz]
        refine upds_same fun u hu => ?_
        cases u with
        | new i c =>
          simp only [Wr.fn]
          rw [if_neg]
          rintro rfl
          have := noNew_at nz (by simpa using hu)
          rw [this] at hid; cases hid
        | _ => rfl
      have kin : ∀ id b', look σ (.k id) = some (.bk b') → (alook σ.bk id).isSome = true := by
        intro id b' hb
        simp only [look] at hb
        cases ha : alook σ.bk id with
        | none => rw [ha] at hb; cases hb
        | some _ => rfl
      have cin : ∀ id o v, look σ (.c id o) = some v → (alook σ.bk id).isSome = true := by
        intro id o v hb
        simp only [look] at hb
        cases ha : alook σ.bk id with
        | none => rw [ha] at hb; cases hb
        | some _ => rfl
      refine ⟨⟨?_, ?_, ?_, ?_⟩, Ext.apps h, hS⟩
      · intro t v hv
        by_cases ht : t ∈ T
        · -- written in one of them
          have hv2 : look m (.t t) = (match mTm b x y t with | .tm _ q => some (.sv q) | _ => none) := by
            rw [hm]
            have hfn : (mTm b x y t).fn (.t t) = some (match mTm b x y t with | .tm _ q => some (.sv q) | _ => none) := by
              unfold mTm
              split
              · split <;> simp [Wr.fn]
              · simp [Wr.fn]
            refine upds_one ⟨mTm b x y t, List.mem_append_left _ (List.mem_map.2 ⟨t, ht, rfl⟩), by rw [hfn]; rfl⟩ fun u hu => ?_
            rcases List.mem_append.1 hu with hu | hu
            · obtain ⟨t', _, rfl⟩ := List.mem_map.1 hu
              by_cases e : t' = t
              · subst e; exact Or.inr hfn
              · refine Or.inl ?_
                unfold mTm
                split
                · split <;> simp [Wr.fn, Ne.symm e]
                · simp [Wr.fn, Ne.symm e]
            · obtain ⟨i, o, c, d, e, rfl, _⟩ := c1 u hu; exact Or.inl rfl
          rw [hv2] at hv
          cases hmt : mTm b x y t with
          | tm n r =>
            rw [hmt] at hv
            obtain rfl : r = v := by simpa using hv
            obtain ⟨p, q, hp, hq, hr⟩ := mTm_tm hmt
            obtain ⟨d, sc⟩ := Sv.ite_den hr
            refine ⟨?_, sc _⟩
            cases b with
            | true =>
              obtain rfl : z = x := by simpa using hz
              exact ⟨p, by simp only [look, hp]; rfl, d⟩
            | false =>
              obtain rfl : z = y := by simpa using hz
              exact ⟨q, by simp only [look, hq]; rfl, d⟩
          | _ => rw [hmt] at hv; cases hv
        · have hv2 : look m (.t t) = look σ (.t t) := by
            rw [hm]
            refine upds_same fun u hu => ?_
            rcases List.mem_append.1 hu with hu | hu
            · obtain ⟨t', ht', rfl⟩ := List.mem_map.1 hu
              have e : t ≠ t' := fun e => ht (e ▸ ht')
              unfold mTm
              split
              · split <;> simp [Wr.fn, e]
              · simp [Wr.fn, e]
            · obtain ⟨i, o, c, d, e, rfl, _⟩ := c1 u hu; rfl
          rw [hv2] at hv
          refine ⟨⟨v, ?_, fun _ => rfl⟩, (hws.tm t v hv).sub hS⟩
          rw [lz, ← hv]
          refine upds_same fun u hu => ?_
          cases u with
          | tm n q => simp only [Wr.fn]; rw [if_neg]; rintro rfl; exact ht (tz _ (Or.inl ⟨q, hu⟩))
          | ft n => simp only [Wr.fn]; rw [if_neg]; rintro rfl; exact ht (tz _ (Or.inr hu))
          | _ => rfl
      · intro id off v hv
        have hinf : ∀ q, look σ (.c id off) = some (.cv q) → ∃ t ro n cp, look m (.k id) = some (.bk (.ar t ro n cp)) ∧ off < n := fun q hq => by
          obtain ⟨_, t, ro, n, cp, h1, h2⟩ := hws.cl id off q hq
          exact ⟨t, ro, n, cp, by rw [mk]; exact h1, h2⟩
        by_cases hin : ∃ e, Wr.cell id off e ∈ ws
        · -- each that writes it writes one thing
          obtain ⟨e0, he0⟩ := hin
          obtain ⟨i0, o0, c0, d0, e0', h00, hcx, hcy, hce⟩ := c1 _ he0
          obtain ⟨rfl, rfl, rfl⟩ : id = i0 ∧ off = o0 ∧ e0 = e0' := by simpa using h00
          have hv2 : look m (.c id off) = some (.cv e0) := by
            rw [hm]
            refine upds_one ⟨.cell id off e0, List.mem_append_right _ he0, by simp [Wr.fn]⟩ fun u hu => ?_
            rcases List.mem_append.1 hu with hu | hu
            · obtain ⟨t', _, rfl⟩ := List.mem_map.1 hu
              refine Or.inl ?_
              unfold mTm; split
              · split <;> rfl
              · rfl
            · obtain ⟨i, o, c, d, e, rfl, g1, g2, g3⟩ := c1 u hu
              by_cases hio : id = i ∧ off = o
              · obtain ⟨rfl, rfl⟩ := hio
                rw [hcx] at g1; rw [hcy] at g2
                obtain rfl := Option.some.inj g1
                obtain rfl := Option.some.inj g2
                rw [hce] at g3
                obtain rfl := Option.some.inj g3
                exact Or.inr (by simp [Wr.fn])
              · refine Or.inl ?_
                simp only [Wr.fn]
                rw [if_neg hio]
          rw [hv2] at hv
          obtain rfl : e0 = v := by simpa using hv
          obtain ⟨d, sc⟩ := Cv.ite_den hce
          -- the cell was there
          have hkσ : ∃ q, look σ (.c id off) = some (.cv q) := by
            obtain ⟨t, ro, n, cp, g1, g2⟩ := look_c_k hv2
            rw [mk] at g1
            exact look_k_c g1 g2
          obtain ⟨q, hq⟩ := hkσ
          refine ⟨?_, sc _, hinf q hq⟩
          cases b with
          | true =>
            obtain rfl : z = x := by simpa using hz
            refine ⟨c0, ?_, d⟩
            simp only [look]
            unfold cellAt at hcx
            cases ha : alook z.bk id with
            | none => rw [ha] at hcx; cases hcx
            | some bb => rw [ha] at hcx; simp only [Option.bind_some] at hcx ⊢; rw [hcx]; rfl
          | false =>
            obtain rfl : z = y := by simpa using hz
            refine ⟨d0, ?_, d⟩
            simp only [look]
            unfold cellAt at hcy
            cases ha : alook z.bk id with
            | none => rw [ha] at hcy; cases hcy
            | some bb => rw [ha] at hcy; simp only [Option.bind_some] at hcy ⊢; rw [hcy]; rfl
        · have hv2 : look m (.c id off) = look σ (.c id off) := by
            rw [hm]
            refine upds_same fun u hu => ?_
            rcases List.mem_append.1 hu with hu | hu
            · obtain ⟨t', _, rfl⟩ := List.mem_map.1 hu
              unfold mTm; split
              · split <;> rfl
              · rfl
            · obtain ⟨i, o, c, d, e, rfl, _⟩ := c1 u hu
              simp only [Wr.fn]
              rw [if_neg]
              rintro ⟨rfl, rfl⟩
              exact hin ⟨e, hu⟩
          rw [hv2] at hv
          refine ⟨⟨v, ?_, fun _ => rfl⟩, (hws.cl id off v hv).1.sub hS, hinf v hv⟩
          rw [lz, ← hv]
          have hid := cin id off _ hv
          refine upds_same fun u hu => ?_
          cases u with
          | cell i o q =>
            simp only [Wr.fn]
            rw [if_neg]
            rintro ⟨rfl, rfl⟩
            obtain ⟨e, he⟩ := c2 _ (cz _ _ q hid hu)
            exact hin ⟨e, he⟩
          | new i c =>
            simp only [Wr.fn]
            rw [if_neg]
            rintro rfl
            have := noNew_at nz (by simpa using hu)
            rw [this] at hid; cases hid
          | _ => rfl
      · intro id b' hb hl
        rw [mk] at hb
        rw [zk id (kin id b' hb)]
        exact hb
      · intro id b' c es hb hc
        rw [mk] at hb
        exact hS.2 c (hws.cp id b' c es hb hc)
    · cases h
  · cases h
end
end Sx
end Go.Proofs.Ytladkknbkgomfaa

/-
  Code and functions.
-/
set_option linter.unusedSimpArgs false
set_option linter.unusedVariables false
namespace Go.Proofs.Ytladkknbkgomfaa
namespace Sx
open Go.RowKit

section
variable {P : Program} {tb : Tb}

/-- Each leaf, whatever the tests. -/
def Tree.Every {α : Type} (p : α → Prop) : Tree α → Prop
  | .leaf x => p x
  | .br _ t f => t.Every p ∧ f.Every p
  | .must _ t => t.Every p
  | .fail => True
theorem Tree.Every.bind {α β : Type} {p : β → Prop} {g : α → Tree β} : ∀ {t : Tree α}, t.Every (fun x => (g x).Every p) → (t.bind g).Every p
  | .leaf _, h => h
  | .br _ _ _, h => ⟨h.1.bind, h.2.bind⟩
  | .must _ t, h => Tree.Every.bind (t := t) h
  | .fail, _ => trivial
theorem Tree.Every.mono {α : Type} {p q : α → Prop} (h : ∀ x, p x → q x) : ∀ {t : Tree α}, t.Every p → t.Every q
  | .leaf x, k => h x k
  | .br _ _ _, k => ⟨k.1.mono h, k.2.mono h⟩
  | .must _ t, k => Tree.Every.mono (t := t) h k
  | .fail, _ => trivial
theorem Tree.Every.at_ {α : Type} {p : α → Prop} {x : α} : ∀ {t : Tree α}, t.Every p → t.At x → p x
  | .leaf _, h, k => by obtain rfl := k; exact h
  | .br _ _ _, h, k => by
    rcases k with ⟨_, k⟩ | ⟨_, k⟩
    · exact h.1.at_ k
    · exact h.2.at_ k
  | .must _ t, h, k => Tree.Every.at_ (t := t) h k.2
  | .fail, _, k => k.elim
theorem Tree.every_true {α : Type} : ∀ {t : Tree α}, t.Every fun _ => True
  | .leaf _ => trivial
  | .br _ _ _ => ⟨Tree.every_true, Tree.every_true⟩
  | .must _ t => Tree.every_true (t := t)
  | .fail => trivial
theorem finish_every {N : Nat} {σ : St} {kn : Kn} {dst : Option Tmp} {pre : List Loc} {E : OpE} : (finish N σ kn dst pre E).Every fun x => Ext σ x.σ := by
  rw [finish_eq]
  split
  · split
    · rename_i h; exact Ext.apps h
    · trivial
  · trivial
theorem evOp_every {wf : List FuncId} {call : CallF} {N : Nat} {ops : Array Oper} {σ : St} {kn : Kn} {o : Oper} : (evOp tb wf call N ops σ kn o).Every fun x => Ext σ x.σ := by
  have yes : ∀ (t : Tree OpE) (kn : Kn) (pre : List Loc), (t.bind (finish N σ kn o.dst pre)).Every fun x => Ext σ x.σ := fun t kn pre => Tree.Every.bind (Tree.every_true.mono fun _ _ => finish_every)
  unfold evOp
  simp only []
  split
  · exact yes _ _ _
  · split
    · trivial
    · split
      · split
        · split
          · exact yes _ _ _
          · exact finish_every
        · split
          · split
            · exact yes _ _ _
            · exact finish_every
          · split
            · exact ⟨yes _ _ _, finish_every⟩
            · exact ⟨finish_every, yes _ _ _⟩
      · exact finish_every
      · trivial
theorem evOps_every {wf : List FuncId} {call : CallF} {N : Nat} {ops : Array Oper} : ∀ {l : List Oper} {σ : St} {kn : Kn} {acc : List Tr}, (evOps tb wf call N ops l σ kn acc).Every fun x => Ext σ x.1
  | [], σ, _, _ => Ext.refl σ
  | _ :: _, _, _, _ => Tree.Every.bind (evOp_every.mono fun _ hx => evOps_every.mono fun _ hy => hx.trans hy)
theorem evReg_every {wf : List FuncId} {call : CallF} {N : Nat} {ops : Array Oper} {draw : Bool} {σ : St} : (evReg tb wf call N ops draw σ).Every fun x => Ext σ x := by
  refine Tree.Every.bind (evOps_every.mono fun x hx => ?_)
  split
  · exact hx
  · split
    · exact hx
    · trivial

def peel : Tree Leaf → Option (List Bool × Leaf)
  | .leaf x => some ([], x)
  | .must b t => (peel t).map fun p => (b :: p.1, p.2)
  | _ => none
def musts {α : Type} : List Bool → Tree α → Tree α
  | [], t => t
  | b :: l, t => .must b (musts l t)
theorem At_musts {α : Type} {x : α} {t : Tree α} : ∀ {l : List Bool}, (musts l t).At x ↔ (∀ b ∈ l, b = true) ∧ t.At x
  | [] => by simp [musts]
  | b :: l => by
    simp only [musts, Tree.At, At_musts (l := l), List.mem_cons, forall_eq_or_imp]
    exact ⟨fun ⟨a, b, c⟩ => ⟨⟨a, b⟩, c⟩, fun ⟨⟨a, b⟩, c⟩ => ⟨a, b, c⟩⟩
theorem peel_at {l : List Bool} {x : Leaf} : ∀ {t : Tree Leaf}, peel t = some (l, x) → (∀ b ∈ l, b = true) → t.At x
  | .leaf y, h, _ => by
    obtain ⟨_, rfl⟩ := Prod.mk.inj (Option.some.inj h)
    rfl
  | .must b t, h, hl => by
    obtain ⟨p, hp, he⟩ := Option.map_eq_some_iff.1 h
    obtain ⟨rfl, rfl⟩ := Prod.mk.inj he
    exact ⟨hl b List.mem_cons_self, peel_at hp fun c hc => hl c (List.mem_cons_of_mem _ hc)⟩
  | .br _ _ _, h, _ => by cases h
  | .fail, h, _ => by cases h
theorem peel_every {p : Leaf → Prop} {l : List Bool} {x : Leaf} : ∀ {t : Tree Leaf}, peel t = some (l, x) → t.Every p → p x
  | .leaf y, h, k => by
    obtain ⟨_, rfl⟩ := Prod.mk.inj (Option.some.inj h)
    exact k
  | .must b t, h, k => by
    obtain ⟨q, hq, he⟩ := Option.map_eq_some_iff.1 h
    obtain ⟨_, rfl⟩ := Prod.mk.inj he
    exact peel_every (t := t) hq k
  | .br _ _ _, h, _ => by cases h
  | .fail, h, _ => by cases h
theorem every_musts {α : Type} {p : α → Prop} {t : Tree α} : ∀ {l : List Bool}, t.Every p → (musts l t).Every p
  | [], h => h
  | _ :: l, h => every_musts (l := l) h
def outEq : Out → Out → Bool
  | .normal, .normal => true
  | .ret, .ret => true
  | .exit i, .exit j => Nat.beq i j
  | _, _ => false
theorem outEq_eq {a b : Out} (h : outEq a b = true) : a = b := by
  cases a <;> cases b <;> simp only [outEq] at h <;> first
    | rfl
    | cases h; done
    | (rw [beq_iff'.1 h])
def join2 (lo : Bool) (σ : St) (b : Bool) (t f : Tree Leaf) : Tree Leaf := match peel t, peel f with
  | some (mt, (o1, x)), some (mf, (o2, y)) => match outEq o1 o2 with
    | true => match merge lo σ b x y with
      | some m => musts (mt.map fun q => !b || q) (musts (mf.map fun q => b || q) (.leaf (o1, m)))
      | none => .br b t f
    | false => .br b t f
  | _, _ => .br b t f
def joinT (lo : Bool) (σ : St) : Tree Leaf → Tree Leaf
  | .leaf x => .leaf x
  | .must b t => .must b (joinT lo σ t)
  | .br b t f => join2 lo σ b (joinT lo σ t) (joinT lo σ f)
  | .fail => .fail

theorem merge_ext {σ m x y : St} {b : Bool} (h : merge0 σ b x y = some m) : Ext σ m := by
  rw [merge_eq] at h
  split at h
  · split at h
    · exact Ext.apps h
    · cases h
  · cases h
theorem join2_every {lo : Bool} {σ : St} {b : Bool} {t f : Tree Leaf} (ht : t.Every fun x => Ext σ x.2) (hf : f.Every fun x => Ext σ x.2) : (join2 lo σ b t f).Every fun x => Ext σ x.2 := by
  unfold join2
  split
  · split
    · split
      · rename_i hm; exact every_musts (every_musts (merge_ext (merge_some hm)))
      · exact ⟨ht, hf⟩
    · exact ⟨ht, hf⟩
  · exact ⟨ht, hf⟩
theorem joinT_every {lo : Bool} {σ : St} : ∀ {T : Tree Leaf}, (T.Every fun x => Ext σ x.2) → (joinT lo σ T).Every fun x => Ext σ x.2
  | .leaf _, h => h
  | .must _ t, h => joinT_every (T := t) h
  | .br _ _ _, h => join2_every (joinT_every h.1) (joinT_every h.2)
  | .fail, _ => trivial
/-- Whatever is as x says is as y says. -/
def RelTo (σ x y : St) : Prop := ∀ (C : Ctx) (N : Nat) (e : Env) (a : Act) (w : World), ((∀ id p, C.pin id = some p → kn (look σ) id) ∧ ∀ c m, C.pinn c = some m → knn (look σ) c) → Rel C N e (look x) a w → Rel C N e (look y) a w
theorem RelTo.refl (σ x : St) : RelTo σ x x := fun _ _ _ _ _ _ h => h
theorem RelTo.trans {σ x y z : St} (h : RelTo σ x y) (k : RelTo σ y z) : RelTo σ x z := fun C N e a w hp hr => k C N e a w hp (h C N e a w hp hr)
/-- A leaf of the joined ways, and the way that it stands for. -/
def Stands (σ : St) (T : Tree Leaf) (y : Leaf) : Prop := ∃ x, T.At x ∧ x.1 = y.1 ∧ (WS (look σ) → RelTo σ x.2 y.2)
theorem join2_ok {lo : Bool} {σ : St} {b : Bool} {t f : Tree Leaf} (ht : t.Every fun x => Ext σ x.2) (hf : f.Every fun x => Ext σ x.2) {y : Leaf} (h : (join2 lo σ b t f).At y) : Stands σ (.br b t f) y := by
  have self : (Tree.br b t f).At y → Stands σ (.br b t f) y := fun hy => ⟨y, hy, rfl, fun _ => RelTo.refl _ _⟩
  unfold join2 at h
  split at h
  · rename_i mt o1 x mf o2 z hpt hpf
    split at h
    · rename_i ho
      split at h
      · rename_i m hm
        rw [At_musts, At_musts] at h
        obtain ⟨h1, h2, h3⟩ := h
        obtain rfl : (o1, m) = y := h3
        have hoe := outEq_eq ho
        have ex : Ext σ x := peel_every hpt ht
        have ez : Ext σ z := peel_every hpf hf
        have key : ∀ {X : Leaf}, X = (if b = true then (o1, x) else (o2, z)) → (Tree.br b t f).At X → Stands σ (.br b t f) (o1, m) := by
          intro X hX hAt
          refine ⟨X, hAt, ?_, ?_⟩
          · rw [hX]; cases b
            · exact hoe.symm
            · rfl
          · intro hws C N e a w hp hr
            obtain ⟨k1, _, k3⟩ := merge_wk hws ex ez (merge_some hm) (if b = true then x else z) rfl
            have hx2 : X.2 = if b = true then x else z := by rw [hX]; cases b <;> rfl
            rw [hx2] at hr
            exact hr.wk k1 ⟨fun id p hh => k3.1 id (hp.1 id p hh), fun c q hh => k3.2 c (hp.2 c q hh)⟩
        by_cases hb : b = true
        · refine key (X := (o1, x)) (by rw [if_pos hb]) (Or.inl ⟨hb, peel_at hpt fun q hq => ?_⟩)
          have := h1 _ (List.mem_map.2 ⟨q, hq, rfl⟩)
          rw [hb] at this; simpa using this
        · have hb' : b = false := by simpa using hb
          refine key (X := (o2, z)) (by rw [if_neg hb]) (Or.inr ⟨hb', peel_at hpf fun q hq => ?_⟩)
          have := h2 _ (List.mem_map.2 ⟨q, hq, rfl⟩)
          rw [hb'] at this; simpa using this
      · exact self h
    · exact self h
  · exact self h
theorem joinT_ok {lo : Bool} {σ : St} : ∀ {T : Tree Leaf} {y : Leaf}, (T.Every fun x => Ext σ x.2) → (joinT lo σ T).At y → Stands σ T y
  | .leaf x, y, _, h => ⟨y, h, rfl, fun _ => RelTo.refl _ _⟩
  | .must b t, y, he, h => by
    obtain ⟨x, h1, h2, h3⟩ := joinT_ok (T := t) he h.2
    exact ⟨x, ⟨h.1, h1⟩, h2, h3⟩
  | .br b t f, y, he, h => by
    obtain ⟨x, h1, h2, h3⟩ := join2_ok (joinT_every he.1) (joinT_every he.2) h
    rcases h1 with ⟨hb, h1⟩ | ⟨hb, h1⟩
    · obtain ⟨z, k1, k2, k3⟩ := joinT_ok he.1 h1
      exact ⟨z, Or.inl ⟨hb, k1⟩, k2.trans h2, fun hw => (k3 hw).trans (h3 hw)⟩
    · obtain ⟨z, k1, k2, k3⟩ := joinT_ok he.2 h1
      exact ⟨z, Or.inr ⟨hb, k1⟩, k2.trans h2, fun hw => (k3 hw).trans (h3 hw)⟩
  | .fail, _, _, h => h.elim
/-- What holds of the way holds of the leaf that stands for it. -/
theorem CodeOk.stands {N : Nat} {σ : St} {c : Code} {T : Tree Leaf} {y : Leaf} (h : ∀ x, T.At x → CodeOk P N σ c x) (hs : Stands σ T y) : CodeOk P N σ c y := by
  obtain ⟨x, h1, h2, h3⟩ := hs
  intro C e a w Q hR hQ
  refine h x h1 C e a w Q hR fun e' a' w' hR' => ?_
  rw [h2]
  exact hQ e' a' w' (h3 hR.ws C N e' a' w' ⟨fun id p hp => (hR.hp.pin.1 id p hp).2, fun c m hm => (hR.hp.pin.2 c m hm).2⟩ hR')

def evL (f : St → Tree Leaf) : Nat → St → Tree Leaf
  | 0, _ => .fail
  | m + 1, σ => (f σ).bind fun x => match x.1 with
    | .normal => evL f m x.2
    | .stop _ => .fail
    | _ => .leaf x
def blkOut (id : Nat) (x : Leaf) : Leaf := match x.1 with
  | .exit i => match Nat.beq i id with
    | true => (.normal, x.2)
    | false => x
  | .stop k => (.stop (k ++ [.blk id]), x.2)
  | _ => x
def evC (tb : Tb) (wf : List FuncId) (call : CallF) (N : Nat) (stops : List Nat) : Nat → Code → St → Tree Leaf
  | 0, _, _ => .fail
  | n + 1, c, σ => match c with
    | .skip => .leaf (.normal, σ)
    | .label _ => .leaf (.normal, σ)
    | .region _ ops draw => joinT false σ ((evReg tb wf call N ops draw σ).bind fun σ' => .leaf (.normal, σ'))
    | .seq a b => (evC tb wf call N stops n a σ).bind fun x => match x.1 with
      | .normal => evC tb wf call N stops n b x.2
      | .stop k => .leaf (.stop (k ++ [.code b]), x.2)
      | _ => .leaf x
    | .cond c a b => match evO σ c with
      | some (.one (.b v true)) => match v with
        | true => evC tb wf call N stops n a σ
        | false => evC tb wf call N stops n b σ
      | some (.one (.b v false)) => join2 false σ v (evC tb wf call N stops n a σ) (evC tb wf call N stops n b σ)
      | _ => .fail
    | .block id body => match memb stops id with
      | true => .leaf (.stop [.code (.block id body)], σ)
      | false => joinT (memb σ.vr 99999) σ ((evC tb wf call N stops n body σ).bind fun x => .leaf (blkOut id x))
    | .loop body => evL (evC tb wf call N stops n body) n σ
    | .exit id => .leaf (.exit id, σ)
    | .ret => .leaf (.ret, σ)
    | _ => .fail
theorem blkOut_2 (id : Nat) (x : Leaf) : (blkOut id x).2 = x.2 := by
  unfold blkOut
  split
  · split <;> rfl
  · rfl
  · rfl
theorem evL_every {f : St → Tree Leaf} (hf : ∀ σ, (f σ).Every fun x => Ext σ x.2) : ∀ {n : Nat} {σ : St}, (evL f n σ).Every fun x => Ext σ x.2
  | 0, _ => trivial
  | n + 1, σ => by
    refine Tree.Every.bind ((hf σ).mono fun x hx => ?_)
    split
    · exact (evL_every hf (n := n)).mono fun y hy => hx.trans hy
    · trivial
    · exact hx
theorem evC_every {wf : List FuncId} {call : CallF} {N : Nat} {stops : List Nat} : ∀ {n : Nat} {c : Code} {σ : St}, (evC tb wf call N stops n c σ).Every fun x => Ext σ x.2
  | 0, _, _ => trivial
  | n + 1, c, σ => by
    have ih : ∀ {c : Code} {σ : St}, (evC tb wf call N stops n c σ).Every fun x => Ext σ x.2 := evC_every (n := n)
    cases c with
    | skip => exact Ext.refl σ
    | label l => exact Ext.refl σ
    | region id ops draw => exact joinT_every (Tree.Every.bind (evReg_every.mono fun _ h => h))
    | seq a b =>
      refine Tree.Every.bind (ih.mono fun x hx => ?_)
      split
      · exact ih.mono fun y hy => hx.trans hy
      · exact hx
      · exact hx
    | cond c a b =>
      simp only [evC]
      split
      · split
        · exact ih
        · exact ih
      · exact join2_every ih ih
      · trivial
    | block id body =>
      simp only [evC]
      split
      · exact Ext.refl σ
      · refine joinT_every (Tree.Every.bind (ih.mono fun x hx => ?_))
        show Ext σ (blkOut id x).2
        rw [blkOut_2]; exact hx
    | loop body => exact evL_every fun _ => ih
    | exit id => exact Ext.refl σ
    | ret => exact Ext.refl σ
    | _ => trivial
theorem evL_ok {N : Nat} {f : St → Tree Leaf} {body : Code} (hf : ∀ σ x, (f σ).At x → CodeOk P N σ body x) : ∀ (n : Nat) (σ : St) (y : Leaf), (evL f n σ).At y →
    ∀ (C : Ctx) (e : Env) (a : Act) (w : World) (Q : Exit → Act → World → Prop), Rel C N e (look σ) a w → (∀ e' a' w', Rel C N e' (look y.2) a' w' → Post P Q y.1 a' w') → Code.rounds P body Q n a w
  | 0, σ, y, h => h.elim
  | n + 1, σ, y, h => by
    intro C e a w Q hR hQ
    rw [rounds_succ]
    obtain ⟨x, h1, h2⟩ := Tree.At_bind.1 h
    refine hf σ x h1 C e a w _ hR fun e' a' w' hR' => ?_
    split at h2
    · rename_i hx
      rw [hx]
      exact evL_ok hf n x.2 y h2 C e' a' w' Q hR' hQ
    · exact h2.elim
    · rename_i hn hs
      obtain rfl : x = y := h2
      have := hQ e' a' w' hR'
      cases hx : x.1 with
      | normal => exact absurd hx hn
      | stop k => exact absurd hx (hs k)
      | exit i => rw [hx] at this; exact this
      | ret => rw [hx] at this; exact this
theorem evC_ok {wf : List FuncId} {call : CallF} {N : Nat} {stops : List Nat} (hT : TbOk P tb) (hm : P.follows .mixedOrders = true) (hc : CallFOk P call) : ∀ (n : Nat) (c : Code) (σ : St) (y : Leaf), (evC tb wf call N stops n c σ).At y → CodeOk P N σ c y
  | 0, _, _, _, h => h.elim
  | n + 1, c, σ, y, h => by
    have ih := evC_ok (wf := wf) (N := N) (stops := stops) hT hm hc n
    cases c with
    | skip => obtain rfl : _ = y := h; exact fun C e a w Q hR hQ => wp_skip (hQ e a w hR)
    | label l => obtain rfl : _ = y := h; exact fun C e a w Q hR hQ => wp_label (hQ e a w hR)
    | region id ops draw =>
      refine CodeOk.stands (fun x hx => ?_) (joinT_ok (Tree.Every.bind (evReg_every.mono fun _ h => h)) h)
      obtain ⟨σ', h1, h2⟩ := Tree.At_bind.1 hx
      obtain rfl : _ = x := h2
      obtain ⟨_, k⟩ := evReg_ok (id := id) hT hm hc h1
      exact fun C e a w Q hR hQ => k C e a w Q hR hQ
    | seq a b =>
      obtain ⟨x, h1, h2⟩ := Tree.At_bind.1 h
      intro C e a' w Q hR hQ
      refine wp_seq (ih a σ x h1 C e a' w _ hR fun e' a' w' hR' => ?_)
      split at h2
      · rename_i hx
        rw [hx]
        exact ih b x.2 y h2 C e' a' w' Q hR' hQ
      · rename_i k hx
        obtain rfl : _ = y := h2
        rw [hx]
        have := hQ e' a' w' hR'
        simp only [Post] at this ⊢
        rw [stackPost_append] at this
        exact this
      · rename_i hn hs
        obtain rfl : x = y := h2
        have := hQ e' a' w' hR'
        cases hx : x.1 with
        | normal => exact absurd hx hn
        | stop k => exact absurd hx (hs k)
        | exit i => rw [hx] at this; exact this
        | ret => rw [hx] at this; exact this
    | cond c a b =>
      simp only [evC] at h
      have hev : ∀ {v l : Bool}, evO σ c = some (.one (.b v l)) → ∀ (C : Ctx) (e : Env) (a : Act) (w : World), Rel C N e (look σ) a w → a.eval c = .bool v := fun hv C e a w hR => (sees_of hR (x := c) (fun _ _ => rfl) _ hv).1
      split at h
      · rename_i v hv
        split at h
        · exact fun C e a' w Q hR hQ => wp_cond (hev hv C e a' w hR) (ih a σ y h C e a' w Q hR hQ)
        · exact fun C e a' w Q hR hQ => wp_cond (hev hv C e a' w hR) (ih b σ y h C e a' w Q hR hQ)
      · rename_i v hv
        refine CodeOk.stands (T := .br v (evC tb wf call N stops n a σ) (evC tb wf call N stops n b σ)) (fun x hx => ?_) (join2_ok evC_every evC_every h)
        rcases hx with ⟨hb, hx⟩ | ⟨hb, hx⟩
        · intro C e a' w Q hR hQ
          refine wp_cond (hev hv C e a' w hR) ?_
          rw [hb]
          exact ih a σ x hx C e a' w Q hR hQ
        · intro C e a' w Q hR hQ
          refine wp_cond (hev hv C e a' w hR) ?_
          rw [hb]
          exact ih b σ x hx C e a' w Q hR hQ
      · exact h.elim
    | block id body =>
      simp only [evC] at h
      split at h
      · obtain rfl : _ = y := h
        exact fun C e a w Q hR hQ => hQ e a w hR
      · refine CodeOk.stands (fun x hx => ?_) (joinT_ok (Tree.Every.bind (evC_every.mono fun x hx => by show Ext σ (blkOut id x).2; rw [blkOut_2]; exact hx)) h)
        obtain ⟨z, h1, h2⟩ := Tree.At_bind.1 hx
        obtain rfl : _ = x := h2
        intro C e a w Q hR hQ
        refine wp_block (ih body σ z h1 C e a w _ hR fun e' a' w' hR' => ?_)
        have := hQ e' a' w' (by rw [blkOut_2]; exact hR')
        unfold blkOut at this
        cases hz : z.1 with
        | normal => rw [hz] at this; simp only [] at this; rw [hz] at this; exact this
        | ret => rw [hz] at this; simp only [] at this; rw [hz] at this; exact this
        | exit i =>
          rw [hz] at this
          simp only [] at this
          show (if i = id then Q .normal a' w' else Q (.exit i) a' w')
          split at this
          · rename_i hb; rw [if_pos (beq_iff'.1 hb)]; exact this
          · rename_i hb; rw [if_neg (beq_ff.1 hb)]; rw [hz] at this; exact this
        | stop k =>
          rw [hz] at this
          simp only [Post] at this ⊢
          rw [stackPost_append] at this
          exact this
    | loop body =>
      intro C e a w Q hR hQ
      exact wp_loop_rounds n (evL_ok (fun σ x hx => ih body σ x hx) n σ y h C e a w Q hR hQ)
    | exit id => obtain rfl : _ = y := h; exact fun C e a w Q hR hQ => wp_exit (hQ e a w hR)
    | ret => obtain rfl : _ = y := h; exact fun C e a w Q hR hQ => wp_ret (hQ e a w hR)
    | _ => exact h.elim
end
end Sx
end Go.Proofs.Ytladkknbkgomfaa

/-
  Functions.
-/
set_option linter.unusedSimpArgs false
set_option linter.unusedVariables false
namespace Go.Proofs.Ytladkknbkgomfaa
namespace Sx
open Go.RowKit

section
variable {P : Program} {tb : Tb}

/-! What is handed back. -/
def resV (tb : Tb) (σ : St) : ResultVar → Option Sv
  | .tmp t => alook σ.tm t
  | .cell a t => match alook σ.tm a with
    | some (.one (.ptr id (.lit k))) => match alook σ.bk id with
      | some (.ar _ _ cs _) => match tb.agg t, tb.info t with
        | some false, _ => (cs[k]?).map .one
        | some true, some i => match Nat.ble (k + i.size) cs.length with
          | true => some (.agg ((cs.drop k).take i.size))
          | false => none
        | _, _ => none
      | _ => none
    | _ => none
def comp : Sv → Option (Bool × List Cv)
  | .one c => some (false, [c])
  | .agg cs => some (true, cs)
  | .tup _ => none
theorem comp_den {v : Sv} {p : Bool × List Cv} (h : comp v = some p) : (∀ e, compDen e p = v.den e) ∧ ∀ s, v.sc s → scs s p.2 := by
  cases v with
  | one c =>
    obtain rfl := Option.some.inj h
    refine ⟨fun e => rfl, fun s hs x hx => ?_⟩
    obtain rfl : x = c := by simpa using hx
    exact hs
  | agg cs => obtain rfl := Option.some.inj h; exact ⟨fun e => rfl, fun s hs => hs⟩
  | tup _ => cases h
def comps (tb : Tb) (σ : St) : List ResultVar → Option (List (Bool × List Cv))
  | [] => some []
  | r :: rs => match (resV tb σ r).bind comp, comps tb σ rs with
    | some p, some ps => some (p :: ps)
    | _, _ => none
def evRes (tb : Tb) (σ : St) : List ResultVar → Option Sv
  | [r] => resV tb σ r
  | rs => (comps tb σ rs).map .tup
def resRun (tmps : Array Value) : ResultVar → Sem Value
  | .tmp t => pure (tmps.getD t undef)
  | .cell p t => do loadVar t (← asAddr (tmps.getD p undef))
theorem resV_run (hT : TbOk P tb) {C : Ctx} {N : Nat} {e : Env} {σ : St} {a : Act} {w : World} (hR : Rel C N e (look σ) a w) {r : ResultVar} {v : Sv} (h : resV tb σ r = some v) :
    (resRun a.tmps r).run P w = .ok (v.den e) w ∧ v.sc (look σ) := by
  cases r with
  | tmp t =>
    have h1 : look σ (.t t) = some (.sv v) := by simp only [look]; rw [show alook σ.tm t = some v from h]; rfl
    obtain ⟨_, h2, h3⟩ := hR.tm t v h1
    exact ⟨by rw [← h2]; rfl, h3⟩
  | cell p t =>
    simp only [resV] at h
    split at h
    · rename_i id k hp
      have h1 : look σ (.t p) = some (.sv (.one (.ptr id (.lit k)))) := by simp only [look, hp]; rfl
      obtain ⟨_, h2, _⟩ := hR.tm p _ h1
      split at h
      · rename_i t' ro cs cp hb
        have hcell : ∀ j c, cs[j]? = some c → w.cell? (e.ad id j) = some (c.den e) ∧ c.sc (look σ) := by
          intro j c hc
          have h3 : look σ (.c id j) = some (.cv c) := by simp only [look, hb, Option.bind_some, Blk.cell, hc, Option.map_some]
          obtain ⟨h4, _, h5⟩ := hR.hp.cl id j c h3
          exact ⟨h5, h4⟩
        split at h
        · rename_i ha
          obtain ⟨c, hc, rfl⟩ := Option.map_eq_some_iff.1 h
          obtain ⟨h3, h4⟩ := hcell k c hc
          refine ⟨?_, h4⟩
          simp only [resRun, Sem.run_bind, h2, den_ptr, asAddr, Sem.run_pure, Result.andThen_ok, loadVar, run_agg hT ha, Bool.false_eq_true, if_false, run_load]
          rw [show Sn.den e (.lit k) = k from rfl, h3]
          rfl
        · rename_i i ha hi
          split at h
          · rename_i hle
            rw [Nat.ble_eq] at hle
            obtain rfl := Option.some.inj h
            have hr := run_loadCells (P := P) w (e.ad id k) i.size (fun j => (cs.getD (k + j) (.val undef)).den e) (fun j hj => by
              rw [ad_add]
              have hlt : k + j < cs.length := by omega
              exact (hcell (k + j) _ (by simp [hlt])).1)
            refine ⟨?_, fun c hc => ?_⟩
            · simp only [resRun, Sem.run_bind, h2, den_ptr, asAddr, Sem.run_pure, Result.andThen_ok, loadVar, run_agg hT ha, if_true, run_size hT hi]
              rw [show Sn.den e (.lit k) = k from rfl, hr]
              try simp only [Result.andThen_ok, den_agg]
              show Result.ok (Value.agg _) w = Result.ok (Value.agg _) w
              congr 2
              unfold densA
              congr 1
              apply List.ext_getElem?
              intro j
              by_cases hj : j < i.size
              · have hlt : k + j < cs.length := by omega
                rw [List.getElem?_map, List.getElem?_range hj, List.getElem?_map, List.getElem?_take_of_lt hj, List.getElem?_drop]
                simp [hlt]
              · rw [List.getElem?_eq_none (by simp; omega), List.getElem?_eq_none (by simp; omega)]
            · obtain ⟨j, hj⟩ := List.mem_iff_getElem?.1 (List.mem_of_mem_drop (List.mem_of_mem_take hc))
              exact (hcell j c hj).2
          · cases h
        · cases h
      · cases h
    · cases h
theorem comps_run (hT : TbOk P tb) {C : Ctx} {N : Nat} {e : Env} {σ : St} {a : Act} {w : World} (hR : Rel C N e (look σ) a w) : ∀ {rs : List ResultVar} {ps : List (Bool × List Cv)}, comps tb σ rs = some ps →
    (rs.mapM (resRun a.tmps)).run P w = .ok (ps.map (compDen e)) w ∧ ∀ p ∈ ps, scs (look σ) p.2
  | [], ps, h => by
    obtain rfl := Option.some.inj h
    exact ⟨rfl, fun p hp => by cases hp⟩
  | r :: rs, ps, h => by
    simp only [comps] at h
    split at h
    · rename_i p ps' hp hps
      obtain rfl := Option.some.inj h
      obtain ⟨v, hv, hc⟩ := Option.bind_eq_some_iff.1 hp
      obtain ⟨d, sc⟩ := comp_den hc
      obtain ⟨r1, r2⟩ := resV_run hT hR hv
      obtain ⟨i1, i2⟩ := comps_run hT hR hps
      refine ⟨?_, fun q hq => ?_⟩
      · rw [List.mapM_cons, Sem.run_bind, r1, Result.andThen_ok, Sem.run_bind, i1, Result.andThen_ok]
        rw [List.map_cons, d e]
        rfl
      · cases hq with
        | head => exact sc _ r2
        | tail _ hq => exact i2 q hq
    · cases h
theorem evRes_run (hT : TbOk P tb) {C : Ctx} {N : Nat} {e : Env} {σ : St} {a : Act} {w : World} (hR : Rel C N e (look σ) a w) {fn : Func} {v : Sv} (h : evRes tb σ fn.results.toList = some v) :
    (results fn a.tmps).run P w = .ok (v.den e) w ∧ v.sc (look σ) := by
  have hres : ∀ vs : List Value, (fn.results.toList.mapM (resRun a.tmps)).run P w = .ok vs w → (results fn a.tmps).run P w = .ok (if h : vs.toArray.size = 1 then vs.toArray[0] else .tuple vs.toArray) w := by
    intro vs hvs
    have he : results fn a.tmps = (do
        let vs ← fn.results.mapM (resRun a.tmps)
        pure (if h : vs.size = 1 then vs[0] else .tuple vs)) := by
      unfold results
      first
        | rfl
        | (congr 2; done)
        | (congr 2; funext r; cases r <;> rfl)
    rw [he, Sem.run_bind, Array.mapM_eq_mapM_toList, Sem.run_map, hvs]
    rfl
  unfold evRes at h
  split at h
  · rename_i r hr
    obtain ⟨r1, r2⟩ := resV_run hT hR h
    refine ⟨?_, r2⟩
    rw [hres [v.den e] (by rw [hr, List.mapM_cons, Sem.run_bind, r1, Result.andThen_ok]; rfl)]
    rfl
  · rename_i hn
    obtain ⟨ps, hps, rfl⟩ := Option.map_eq_some_iff.1 h
    obtain ⟨i1, i2⟩ := comps_run hT hR hps
    refine ⟨?_, i2⟩
    rw [hres _ i1]
    have hlen : ps.length = fn.results.toList.length := by
      have : ∀ (rs : List ResultVar) (ps : List (Bool × List Cv)), comps tb σ rs = some ps → ps.length = rs.length := by
        intro rs
        induction rs with
        | nil => intro ps h; obtain rfl := Option.some.inj h; rfl
        | cons r rs ih =>
          intro ps h
          simp only [comps] at h
          split at h
          · rename_i p ps' _ hps'
            obtain rfl := Option.some.inj h
            simp [ih _ hps']
          · cases h
      exact this _ _ hps
    rw [dif_neg]
    · rfl
    · simp only [List.size_toArray, List.length_map]
      rw [hlen]
      intro h1
      obtain ⟨r, hr⟩ := List.length_eq_one_iff.1 h1
      exact hn r hr

/-! A function's own frame. -/
def argTm : Nat → List Sv → List (Nat × Sv)
  | _, [] => []
  | i, v :: vs => (i, v) :: argTm (i + 1) vs
def enterSt (σ : St) (args : List Sv) : St := { σ with tm := argTm 0 args, lg := [] }
theorem argTm_at : ∀ {args : List Sv} {i t : Nat} {v : Sv}, alook (argTm i args) t = some v → i ≤ t ∧ args[t - i]? = some v
  | [], i, t, v, h => by cases h
  | u :: us, i, t, v, h => by
    simp only [argTm, alook] at h
    cases hb : Nat.beq i t with
    | true =>
      rw [hb] at h
      obtain rfl := beq_iff'.1 hb
      obtain rfl := Option.some.inj h
      exact ⟨Nat.le_refl _, by simp⟩
    | false =>
      rw [hb] at h
      obtain ⟨h1, h2⟩ := argTm_at h
      refine ⟨by omega, ?_⟩
      rw [show t - i = (t - (i + 1)) + 1 by omega]
      simpa using h2
theorem enter_rel {C : Ctx} {e : Env} {σ : St} {w : World} {args : List Sv} {N : Nat} (hp : Hp C e (look σ) w) (ha : ∀ x ∈ args, x.sc (look σ)) (hN : args.length ≤ N) :
    Rel C N e (look (enterSt σ args)) { tmps := (args.map (·.den e)).toArray ++ Array.replicate (N - (args.map (·.den e)).toArray.size) undef, defers := [] } w := by
  have hS : Sub (look σ) (look (enterSt σ args)) := ⟨fun _ h => h, fun _ h => h⟩
  refine ⟨by simp; omega, rfl, ?_, hp.congr fun l hl => ?_⟩
  · intro t v ht
    have h1 : alook (argTm 0 args) t = some v := by
      simp only [look, enterSt] at ht
      obtain ⟨u, hu, he⟩ := Option.map_eq_some_iff.1 ht
      obtain rfl : u = v := by simpa using he
      exact hu
    obtain ⟨_, h2⟩ := argTm_at h1
    rw [Nat.sub_zero] at h2
    have hlt := (List.getElem?_eq_some_iff.1 h2).1
    refine ⟨by omega, ?_, (ha v (List.mem_of_getElem? h2)).sub hS⟩
    show ((args.map (·.den e)).toArray ++ _).getD t undef = _
    rw [Array.getD_eq_getD_getElem?, Array.getElem?_append_left (by simpa using hlt)]
    simp [h2]
  · cases l with
    | t n => exact absurd rfl (hl n)
    | _ => rfl

/-! Ways of a function that meet at its end. -/
abbrev FLeaf := Sv × St
def peelF : Tree FLeaf → Option (List Bool × FLeaf)
  | .leaf x => some ([], x)
  | .must b t => (peelF t).map fun p => (b :: p.1, p.2)
  | _ => none
def join2F (σ : St) (b : Bool) (t f : Tree FLeaf) : Tree FLeaf := match peelF t, peelF f with
  | some (mt, (v, x)), some (mf, (u, y)) => match Sv.ite b v u, merge0 σ b x y with
    | some z, some m => musts (mt.map fun q => !b || q) (musts (mf.map fun q => b || q) (.leaf (z, m)))
    | _, _ => .br b t f
  | _, _ => .br b t f
def joinF (σ : St) : Tree FLeaf → Tree FLeaf
  | .leaf x => .leaf x
  | .must b t => .must b (joinF σ t)
  | .br b t f => join2F σ b (joinF σ t) (joinF σ f)
  | .fail => .fail
theorem peelF_at {l : List Bool} {x : FLeaf} : ∀ {t : Tree FLeaf}, peelF t = some (l, x) → (∀ b ∈ l, b = true) → t.At x
  | .leaf y, h, _ => by
    obtain ⟨_, rfl⟩ := Prod.mk.inj (Option.some.inj h)
    rfl
  | .must b t, h, hl => by
    obtain ⟨p, hp, he⟩ := Option.map_eq_some_iff.1 h
    obtain ⟨rfl, rfl⟩ := Prod.mk.inj he
    exact ⟨hl b List.mem_cons_self, peelF_at hp fun c hc => hl c (List.mem_cons_of_mem _ hc)⟩
  | .br _ _ _, h, _ => by cases h
  | .fail, h, _ => by cases h
theorem peelF_every {p : FLeaf → Prop} {l : List Bool} {x : FLeaf} : ∀ {t : Tree FLeaf}, peelF t = some (l, x) → t.Every p → p x
  | .leaf y, h, k => by
    obtain ⟨_, rfl⟩ := Prod.mk.inj (Option.some.inj h)
    exact k
  | .must b t, h, k => by
    obtain ⟨q, hq, he⟩ := Option.map_eq_some_iff.1 h
    obtain ⟨_, rfl⟩ := Prod.mk.inj he
    exact peelF_every (t := t) hq k
  | .br _ _ _, h, _ => by cases h
  | .fail, h, _ => by cases h
theorem join2F_every {σ : St} {b : Bool} {t f : Tree FLeaf} (ht : t.Every fun x => Ext σ x.2) (hf : f.Every fun x => Ext σ x.2) : (join2F σ b t f).Every fun x => Ext σ x.2 := by
  unfold join2F
  split
  · split
    · rename_i hm; exact every_musts (every_musts (merge_ext hm))
    · exact ⟨ht, hf⟩
  · exact ⟨ht, hf⟩
theorem joinF_every {σ : St} : ∀ {T : Tree FLeaf}, (T.Every fun x => Ext σ x.2) → (joinF σ T).Every fun x => Ext σ x.2
  | .leaf _, h => h
  | .must _ t, h => joinF_every (T := t) h
  | .br _ _ _, h => join2F_every (joinF_every h.1) (joinF_every h.2)
  | .fail, _ => trivial
/-- What a leaf hands back, for the way that it stands for. -/
def StandsF (σ : St) (T : Tree FLeaf) (y : FLeaf) : Prop := ∃ x, T.At x ∧ (WS (look σ) → RelTo σ x.2 y.2 ∧ (∀ e, y.1.den e = x.1.den e) ∧ (x.1.sc (look x.2) → y.1.sc (look y.2)))
theorem join2F_ok {σ : St} {b : Bool} {t f : Tree FLeaf} (ht : t.Every fun x => Ext σ x.2) (hf : f.Every fun x => Ext σ x.2) {y : FLeaf} (h : (join2F σ b t f).At y) : StandsF σ (.br b t f) y := by
  have self : (Tree.br b t f).At y → StandsF σ (.br b t f) y := fun hy => ⟨y, hy, fun _ => ⟨RelTo.refl _ _, fun _ => rfl, id⟩⟩
  unfold join2F at h
  split at h
  · rename_i mt v x mf u z hpt hpf
    split at h
    · rename_i r m hr hm
      rw [At_musts, At_musts] at h
      obtain ⟨h1, h2, h3⟩ := h
      obtain rfl : (r, m) = y := h3
      have ex : Ext σ x := peelF_every hpt ht
      have ez : Ext σ z := peelF_every hpf hf
      obtain ⟨d, sc⟩ := Sv.ite_den hr
      have key : ∀ {X : FLeaf}, X = (if b = true then (v, x) else (u, z)) → (Tree.br b t f).At X → StandsF σ (.br b t f) (r, m) := by
        intro X hX hAt
        refine ⟨X, hAt, fun hws => ⟨?_, fun e => ?_, fun _ => sc _⟩⟩
        · intro C N e a w hp hr'
          obtain ⟨k1, _, k3⟩ := merge_wk hws ex ez hm (if b = true then x else z) rfl
          have hx2 : X.2 = if b = true then x else z := by rw [hX]; cases b <;> rfl
          rw [hx2] at hr'
          exact hr'.wk k1 ⟨fun id p hh => k3.1 id (hp.1 id p hh), fun c q hh => k3.2 c (hp.2 c q hh)⟩
        · rw [d e, hX]; cases b <;> rfl
      by_cases hb : b = true
      · refine key (X := (v, x)) (by rw [if_pos hb]) (Or.inl ⟨hb, peelF_at hpt fun q hq => ?_⟩)
        have := h1 _ (List.mem_map.2 ⟨q, hq, rfl⟩)
        rw [hb] at this; simpa using this
      · have hb' : b = false := by simpa using hb
        refine key (X := (u, z)) (by rw [if_neg hb]) (Or.inr ⟨hb', peelF_at hpf fun q hq => ?_⟩)
        have := h2 _ (List.mem_map.2 ⟨q, hq, rfl⟩)
        rw [hb'] at this; simpa using this
    · exact self h
  · exact self h
theorem joinF_ok {σ : St} : ∀ {T : Tree FLeaf} {y : FLeaf}, (T.Every fun x => Ext σ x.2) → (joinF σ T).At y → StandsF σ T y
  | .leaf x, y, _, h => ⟨y, h, fun _ => ⟨RelTo.refl _ _, fun _ => rfl, id⟩⟩
  | .must b t, y, he, h => by
    obtain ⟨x, h1, h2⟩ := joinF_ok (T := t) he h.2
    exact ⟨x, ⟨h.1, h1⟩, h2⟩
  | .br b t f, y, he, h => by
    obtain ⟨x, h1, h2⟩ := join2F_ok (joinF_every he.1) (joinF_every he.2) h
    rcases h1 with ⟨hb, h1⟩ | ⟨hb, h1⟩
    · obtain ⟨z, k1, k2⟩ := joinF_ok he.1 h1
      exact ⟨z, Or.inl ⟨hb, k1⟩, fun hw => ⟨(k2 hw).1.trans (h2 hw).1, fun e => ((h2 hw).2.1 e).trans ((k2 hw).2.1 e), fun hs => (h2 hw).2.2 ((k2 hw).2.2 hs)⟩⟩
    · obtain ⟨z, k1, k2⟩ := joinF_ok he.2 h1
      exact ⟨z, Or.inr ⟨hb, k1⟩, fun hw => ⟨(k2 hw).1.trans (h2 hw).1, fun e => ((h2 hw).2.1 e).trans ((k2 hw).2.1 e), fun hs => (h2 hw).2.2 ((k2 hw).2.2 hs)⟩⟩
  | .fail, _, _, h => h.elim

def outF (tb : Tb) (rs : List ResultVar) (x : Leaf) : Tree FLeaf := match x.1 with
  | .stop _ => .fail
  | .exit _ => .fail
  | _ => match evRes tb x.2 rs with
    | some v => fV v fun v => .leaf (v, x.2)
    | none => .fail
theorem outF_eq {tb : Tb} {rs : List ResultVar} {x : Leaf} : outF tb rs x = match x.1 with
    | .stop _ => .fail
    | .exit _ => .fail
    | _ => match evRes tb x.2 rs with
      | some v => .leaf (v, x.2)
      | none => .fail := by
  simp only [outF, fV_eq]
/-- The slots of variables. -/
def asgOps : List Oper → List Nat → List Nat
  | [], acc => acc
  | o :: l, acc => match o.op, o.dst with
    | .assign _, some d => asgOps l (bif memb acc d then acc else d :: acc)
    | _, _ => asgOps l acc
def asg : Nat → Code → List Nat → List Nat
  | 0, _, acc => acc
  | n + 1, c, acc => match c with
    | .region _ ops _ => asgOps ops.toList acc
    | .seq a b => asg n b (asg n a acc)
    | .cond _ a b => asg n b (asg n a acc)
    | .block _ b => asg n b acc
    | .loop b => asg n b acc
    | _ => acc
def withVr (σ : St) (l : List Nat) : St := { σ with vr := l }
theorem look_withVr (σ : St) (l : List Nat) : look (withVr σ l) = look σ := by funext x; cases x <;> rfl
/-- What is looked at where ways meet: the variables; for a function f with f + 100000 among 'wf', whether they stand written out, and differ; for one with f + 200000: blocks may lose them. -/
def evVr (wf : List FuncId) (f fuel : Nat) (fn : Func) : List Nat := match fn.body with
  | some c => match memb wf (f + 200000) with
    | true => 99999 :: asg fuel c []
    | false => match memb wf (f + 100000) with
      | true => asg fuel c [] ++ (asg fuel c []).map (· + 100000)
      | false => asg fuel c []
  | none => []
def evBody (tb : Tb) (wf : List FuncId) (call : CallF) (fuel : Nat) (vs : List Nat) (fn : Func) (args : List Sv) (σ : St) : Tree FLeaf := match fn.body, Nat.ble args.length fn.ntmps with
  | some c, true => fEnt (enterSt (withVr σ vs) args) fun σ0 => joinF σ0 ((evC tb wf call fn.ntmps [] fuel c σ0).bind (outF tb fn.results.toList))
  | _, _ => .fail
/-- Functions that are told by what is known of them; the others by their text. -/
def evFn (tb : Tb) (wf : List FuncId) (sp : FuncId → Option (List Sv → St → Tree FLeaf)) (fuel : Nat) : Nat → CallF
  | 0, _, _, _ => .fail
  | d + 1, f, args, σ => match sp f with
    | some g => g args σ
    | none => match alook tb.fn f with
      | some fn => evBody tb wf (evFn tb wf sp fuel d) fuel (evVr wf f fuel fn) fn args σ
      | none => .fail
def SpOk (P : Program) (sp : FuncId → Option (List Sv → St → Tree FLeaf)) : Prop := ∀ f g, sp f = some g → ∀ args σ y, (g args σ).At y → FunOk P f args σ y.1 y.2
theorem unW_fns {lg : List Wr} {id off : Nat} (h : unW lg id off = true) : ∀ x ∈ lg, x.fn (.c id off) = none := by
  intro x hx
  have := List.all_eq_true.1 h x hx
  cases x with
  | cell i o v =>
    simp only [Bool.not_eq_true', Bool.and_eq_false_iff, beq_ff] at this
    simp only [Wr.fn]
    rw [if_neg (fun e => by rcases this with h | h; exact h e.1.symm; exact h e.2.symm)]
  | new i b =>
    simp only [Bool.not_eq_true', beq_ff] at this
    simp only [Wr.fn]
    rw [if_neg (fun e => this e.symm)]
  | _ => rfl
theorem ext_keep {σ0 σ' : St} (h : Ext σ0 σ') : KeepL σ0 σ' := by
  intro id off _ hu
  obtain ⟨ws, hw, hl⟩ := h
  rw [look_apps hw, upds_fns]
  have : fns ws (.c id off) = none := by
    cases hf : fns ws (.c id off) with
    | none => rfl
    | some z =>
      exfalso
      obtain ⟨x, hx1, hx2⟩ := fns_some (l := .c id off) (ws := ws) (by rw [hf]; rfl)
      have := unW_fns hu x (by rw [hl]; exact List.mem_append_left _ (List.mem_reverse.2 hx1))
      rw [this] at hx2; cases hx2
  dsimp only
  rw [this, Option.getD_none]
theorem evBody_ok {wf : List FuncId} {call : CallF} (hT : TbOk P tb) (hm : P.follows .mixedOrders = true) (hc : CallFOk P call) {fuel f : Nat} {vs : List Nat} {fn : Func} (hf : P.funcs[f]? = some fn) {args : List Sv} {σ : St} {y : FLeaf} (h : (evBody tb wf call fuel vs fn args σ).At y) : FunOk P f args σ y.1 y.2 := by
  unfold evBody at h
  split at h
  · rename_i c hb hle
    rw [Nat.ble_eq] at hle
    rw [fEnt_eq] at h
    have hev : ((evC tb wf call fn.ntmps [] fuel c (enterSt (withVr σ vs) args)).bind (outF tb fn.results.toList)).Every fun x => Ext (enterSt (withVr σ vs) args) x.2 := by
      refine Tree.Every.bind (evC_every.mono fun x hx => ?_)
      rw [outF_eq]
      split
      · trivial
      · trivial
      · split
        · exact hx
        · trivial
    have hkeep := ext_keep ((joinF_every hev).at_ h)
    obtain ⟨x, h1, h2⟩ := joinF_ok hev h
    obtain ⟨z, k1, k2⟩ := Tree.At_bind.1 h1
    have hz : ∃ v, evRes tb z.2 fn.results.toList = some v ∧ x = (v, z.2) ∧ (z.1 = .normal ∨ z.1 = .ret) := by
      rw [outF_eq] at k2
      split at k2
      · exact k2.elim
      · exact k2.elim
      · rename_i n1 n2
        split at k2
        · rename_i v hv
          refine ⟨v, hv, k2.symm, ?_⟩
          cases hz : z.1 with
          | normal => exact Or.inl rfl
          | ret => exact Or.inr rfl
          | exit i => exact absurd hz (n2 i)
          | stop k => exact absurd hz (n1 k)
        · exact k2.elim
    obtain ⟨v, hv, rfl, hzo⟩ := hz
    refine ⟨fun C e w hp ha => ?_, fun id off hk hu => hkeep id off hk hu⟩
    -- every name that is known stands fast
    let C' : Ctx := { M := C.M, w0 := C.w0, pin := fun id => if (look σ (.k id)).isSome = true then some (e.pl id) else none, pinn := fun c => if (look σ (.n c)).isSome = true then some (e.nm c) else none }
    have hp' : Hp C' e (look σ) w := ⟨hp.new, hp.cl, hp.ar, hp.oq, hp.cp, hp.inj, hp.lt, hp.mu, ⟨(fun id p hh => by
      simp only [C'] at hh
      split at hh
      · rename_i hk; exact ⟨Option.some.inj hh, hk⟩
      · cases hh), (fun c m hh => by
      simp only [C'] at hh
      split at hh
      · rename_i hk; exact ⟨Option.some.inj hh, hk⟩
      · cases hh)⟩, hp.fr⟩
    have hR := enter_rel (σ := withVr σ vs) (by rw [look_withVr]; exact hp') (by rw [look_withVr]; exact ha) hle
    refine calls_of_wp hf hb ?_
    refine evC_ok hT hm hc fuel c (enterSt (withVr σ vs) args) z k1 C' e _ w _ hR fun e' a' w' hR' => ?_
    have hws : WS (look (enterSt (withVr σ vs) args)) := hR.ws
    obtain ⟨s1, s2, s3⟩ := h2 hws
    have hpins : (∀ id p, C'.pin id = some p → kn (look (enterSt (withVr σ vs) args)) id) ∧ ∀ d m, C'.pinn d = some m → knn (look (enterSt (withVr σ vs) args)) d := ⟨fun id p hh => (hp'.pin.1 id p hh).2, fun c m hh => (hp'.pin.2 c m hh).2⟩
    have hRy := s1 C' fn.ntmps e' a' w' hpins hR'
    obtain ⟨r1, r2⟩ := evRes_run hT hR' hv
    have hA : Agree (look σ) e e' := by
      refine ⟨fun id hid => (hRy.hp.pin.1 id (e.pl id) ?_).1, fun c hc => (hRy.hp.pin.2 c (e.nm c) ?_).1⟩
      · exact if_pos hid
      · exact if_pos hc
    have hfin : Hp C e' (look y.2) w' := by
      have q := hRy.hp
      refine ⟨q.new, q.cl, q.ar, q.oq, q.cp, q.inj, q.lt, q.mu, ⟨fun id p hh => ?_, fun c m hh => ?_⟩, q.fr⟩
      · obtain ⟨p1, p2⟩ := hp.pin.1 id p hh
        have := q.pin.1 id (e.pl id) (if_pos p2)
        exact ⟨this.1.trans p1, this.2⟩
      · obtain ⟨p1, p2⟩ := hp.pin.2 c m hh
        have := q.pin.2 c (e.nm c) (if_pos p2)
        exact ⟨this.1.trans p1, this.2⟩
    have hend : ∃ v', (results fn a'.tmps).run P w' = .ok v' w' ∧ ∃ e'', Agree (look σ) e e'' ∧ Hp C e'' (look y.2) w' ∧ Ending.returned v' = .returned (y.1.den e'') ∧ y.1.sc (look y.2) :=
      ⟨_, r1, e', hA, hfin, by rw [s2 e'], s3 r2⟩
    rcases hzo with ho | ho
    · rw [ho]
      exact ⟨hR'.df, hend⟩
    · rw [ho]
      exact ⟨hR'.df, hend⟩
  · exact h.elim
theorem evFn_ok {wf : List FuncId} {sp : FuncId → Option (List Sv → St → Tree FLeaf)} {fuel : Nat} (hT : TbOk P tb) (hm : P.follows .mixedOrders = true) (hs : SpOk P sp) : ∀ d, CallFOk P (evFn tb wf sp fuel d)
  | 0 => fun _ _ _ _ h => h.elim
  | d + 1 => by
    intro f args σ Φ h
    obtain ⟨y, h1, h2⟩ := h.at_
    refine ⟨y.1, y.2, h2, ?_⟩
    simp only [evFn] at h1
    split at h1
    · rename_i g hg; exact hs f g hg args σ y h1
    · split at h1
      · rename_i fn hfn
        exact evBody_ok hT hm (evFn_ok hT hm hs d) (hT.fn.at_ hfn).1 h1
      · exact h1.elim
theorem evFn_at {wf : List FuncId} {sp : FuncId → Option (List Sv → St → Tree FLeaf)} {fuel : Nat} (hT : TbOk P tb) (hm : P.follows .mixedOrders = true) (hs : SpOk P sp) {d f : Nat} {args : List Sv} {σ : St} {y : FLeaf} (h : (evFn tb wf sp fuel d f args σ).At y) : FunOk P f args σ y.1 y.2 := by
  obtain ⟨v, σ', h1, h2⟩ := evFn_ok hT hm hs d f args σ (· = y) h.eqAll
  obtain rfl := h1
  exact h2
end
end Sx
end Go.Proofs.Ytladkknbkgomfaa

/-
  A function that is handed values without addresses: its contract in any world. An argument that is made of numbers and truth values alone, in names.
-/
set_option linter.unusedSimpArgs false
set_option linter.unusedVariables false
namespace Go.Proofs.Ytladkknbkgomfaa
namespace Sx
open Go.RowKit Go.ChangeShapes Go.WideShapes

section
variable {P : Program} {tb : Tb}

/-- Nothing is known. -/
def st0 : St := ⟨[], [], 0, [], 0, [], []⟩
theorem look_st0 (l : Loc) : look st0 l = none := by cases l <;> rfl
def env0 : Env := ⟨fun _ => (0, 0), fun _ => 0⟩
def ctx0 (w : World) : Ctx := ⟨fun b => w.heap.size ≤ b, fun _ => none, fun _ => none, w⟩
theorem hp0 (w : World) (hG : Glob0 w := by exact glob0 w) : Hp (ctx0 w) env0 (look st0) w := by
  refine ⟨fun _ h => h, ?_, ?_, ?_, ?_, ?_, ?_, ?_, ⟨fun _ _ h => (by cases h), fun _ _ h => (by cases h)⟩, ⟨rfl, rfl, rfl, Nat.le_refl _, fun _ _ _ => rfl, hG⟩⟩ <;> (try clear hG) <;>
    intros <;> simp only [look_st0, reduceCtorEq] at *
/-- Values that hold no names. -/
def Cv.freeB : Cv → Bool
  | .ptr _ _ => false
  | .slc _ _ _ _ => false
  | .fn _ caps => caps.isEmpty
  | _ => true
def Sv.freeB : Sv → Bool
  | .one c => c.freeB
  | .agg cs => cs.all Cv.freeB
  | .tup vs => vs.all fun p => p.2.all Cv.freeB
theorem Cv.free_sc {c : Cv} (h : c.freeB = true) (s : Sto) : c.sc s := by
  cases c with
  | ptr id off => cases h
  | slc id off l c => cases h
  | fn f caps => obtain rfl := List.isEmpty_iff.1 h; exact fun p hp => by cases hp
  | _ => trivial
theorem Sv.free_sc {v : Sv} (h : v.freeB = true) (s : Sto) : v.sc s := by
  cases v with
  | one c => exact Cv.free_sc h s
  | agg cs => exact fun c hc => Cv.free_sc (List.all_eq_true.1 h c hc) s
  | tup vs => exact fun p hp c hc => Cv.free_sc (List.all_eq_true.1 (List.all_eq_true.1 h p hp) c hc) s
theorem Sv.free_den {v : Sv} (h : v.freeB = true) (e e' : Env) : v.den e' = v.den e :=
  Sv.den_agree (s := fun _ => none) ⟨fun _ h => (by cases h), fun _ h => (by cases h)⟩ (Sv.free_sc h _)

/-- The contract in any world. -/
theorem FunOk.any {f : FuncId} {args : List Sv} {v : Sv} {σ' : St} (h : FunOk P f args st0 v σ') (hargs : ∀ x ∈ args, x.freeB = true) (hv : v.freeB = true) (w : World) (hG : Glob0 w := by exact glob0 w) :
    Calls P f (args.map (·.den env0)).toArray w fun en w' => en = .returned (v.den env0) ∧ Below w.heap.size w w' := by
  refine (h.run (ctx0 w) env0 w (hp0 w hG) fun x hx => Sv.free_sc (hargs x hx) _).mono fun en w' => ?_
  rintro ⟨e', -, hp, rfl, -⟩
  refine ⟨by rw [Sv.free_den hv e' env0], hp.fr.os, hp.fr.tape, hp.fr.output, hp.fr.size, fun k hk => hp.fr.block k hk ?_⟩
  show ¬ w.heap.size ≤ k
  omega

/-- What is known stays known where nothing that was there is written. -/
theorem Hp.keep {C : Ctx} {e : Env} {s : Sto} {w w' : World} (h : Hp C e s w) (b : Below w.heap.size w w') : Hp C e s w' := by
  have keep : ∀ i b, s (.k i) = some (.bk b) → b.live = true → w'.heap[(e.pl i).1]? = w.heap[(e.pl i).1]? := fun i x hx hl => b.block _ (h.lt i x hx hl)
  refine ⟨h.new, ?_, ?_, ?_, ?_, h.inj, ?_, h.mu, h.pin, ?_⟩
  · intro i off x hx
    obtain ⟨h1, ⟨t, ro, n, cp, h2, h3⟩, h4⟩ := h.cl i off x hx
    exact ⟨h1, ⟨t, ro, n, cp, h2, h3⟩, by rw [World.cell?_of_block (w := w) (keep i _ h2 rfl), h4]⟩
  · intro i t n cp hx off ho
    have hk := keep i _ hx rfl
    rw [World.frozen?_of_block (w := w) hk, World.cell?_of_block (w := w) hk]
    exact h.ar i t n cp hx off ho
  · intro i t ro n f cp hx off ho
    have hk := keep i _ hx rfl
    rw [World.frozen?_of_block (w := w) hk, World.cell?_of_block (w := w) hk]
    exact h.oq i t ro n f cp hx off ho
  · intro i x c es hx hc
    have hl : x.live = true := by cases x <;> first | rfl | cases hc
    obtain ⟨h1, h2, cs, h3, h4⟩ := h.cp i x c es hx hc
    exact ⟨h1, h2, cs, (keep i x hx hl).trans h3, h4⟩
  · intro i x hx hl
    exact Nat.lt_of_lt_of_le (h.lt i x hx hl) b.size
  · have f := h.fr
    exact ⟨b.os.trans f.os, b.tape.trans f.tape, b.output.trans f.output, Nat.le_trans f.size b.size, fun k hk hM => (b.block k (Nat.lt_of_lt_of_le hk f.size)).trans (f.block k hk hM), f.gl⟩
/-- A function that hands a value back and leaves alone what was there: what a caller's state says of it. -/
theorem FunOk.of_any {f : FuncId} {args : List Sv} {v : Sv} {σ : St} (hv : v.freeB = true) (h : ∀ (e : Env) (w : World), Calls P f (args.map (·.den e)).toArray w fun en w' => en = .returned (v.den e) ∧ Below w.heap.size w w') : FunOk P f args σ v σ := by
  refine ⟨fun C e w hp _ => ?_, KeepL.refl _⟩
  refine (h e w).mono fun en w' => ?_
  rintro ⟨rfl, hb⟩
  exact ⟨e, Agree.refl _ _, hp.keep hb, rfl, Sv.free_sc hv _⟩

theorem FunOk.of_anyG {f : FuncId} {args : List Sv} {v : Sv} {σ : St} (hv : v.freeB = true) (h : ∀ (e : Env) (w : World), Glob0 w → Calls P f (args.map (·.den e)).toArray w fun en w' => en = .returned (v.den e) ∧ Below w.heap.size w w') : FunOk P f args σ v σ := by
  refine ⟨fun C e w hp _ => ?_, KeepL.refl _⟩
  refine (h e w hp.fr.glob0).mono fun en w' => ?_
  rintro ⟨rfl, hb⟩
  exact ⟨e, Agree.refl _ _, hp.keep hb, rfl, Sv.free_sc hv _⟩

/-! The answer is true. -/
def okT : Tree FLeaf → Bool
  | .leaf y => match y.1 with
    | .one (.b b _) => b
    | _ => false
  | .must b t => b && okT t
  | .br b t f => bif b then okT t else okT f
  | .fail => false
theorem okT_at : ∀ {T : Tree FLeaf}, okT T = true → ∃ y l, T.At y ∧ y.1 = .one (.b true l)
  | .leaf y, h => by
    obtain ⟨v, σ⟩ := y
    cases v with
    | one c => cases c with
      | b b l => obtain rfl : b = true := h; exact ⟨_, l, rfl, rfl⟩
      | _ => cases h
    | _ => cases h
  | .must b t, h => by
    obtain ⟨h1, h2⟩ := Bool.and_eq_true_iff.1 (show (b && okT t) = true from h)
    obtain ⟨y, l, h3, h4⟩ := okT_at h2
    exact ⟨y, l, ⟨h1, h3⟩, h4⟩
  | .br b t f, h => by
    have h' : (bif b then okT t else okT f) = true := h
    cases b with
    | true => obtain ⟨y, l, h3, h4⟩ := okT_at (T := t) h'; exact ⟨y, l, Or.inl ⟨rfl, h3⟩, h4⟩
    | false => obtain ⟨y, l, h3, h4⟩ := okT_at (T := f) h'; exact ⟨y, l, Or.inr ⟨rfl, h3⟩, h4⟩
theorem true_any {wf : List FuncId} {sp : FuncId → Option (List Sv → St → Tree FLeaf)} {fuel d f : Nat} (hT : TbOk P tb) (hm : P.follows .mixedOrders = true) (hs : SpOk P sp) {args : List Sv} (hargs : ∀ x ∈ args, x.freeB = true)
    (h : okT (evFn tb wf sp fuel d f args st0) = true) (w : World) (hG : Glob0 w := by exact glob0 w) : Calls P f (args.map (·.den env0)).toArray w fun en w' => en = .returned (.bool true) ∧ Below w.heap.size w w' := by
  obtain ⟨y, l, h1, h2⟩ := okT_at h
  have := (evFn_at hT hm hs h1).any hargs (by rw [h2]; rfl) w hG
  rw [h2] at this
  exact this
theorem spNone : SpOk P fun _ => none := fun _ _ h => by cases h
/-- One function is known to answer true. -/
def spTrue (g : Nat) (f : FuncId) : Option (List Sv → St → Tree FLeaf) := match Nat.beq g f with
  | true => some fun args σ => match args with
    | [] => .leaf (.one (.b true true), σ)
    | _ => .fail
  | false => none
theorem spTrue_okG {g : Nat} (h : ∀ w, Glob0 w → Calls P g #[] w fun en w' => en = .returned (.bool true) ∧ Below w.heap.size w w') : SpOk P (spTrue g) := by
  intro f k hk args σ y hy
  unfold spTrue at hk
  split at hk
  · rename_i hb
    obtain rfl := beq_iff'.1 hb
    obtain rfl := Option.some.inj hk
    cases args with
    | nil => obtain rfl := (show _ = y from hy); exact FunOk.of_anyG rfl fun e w hG => h w hG
    | cons => exact hy.elim
  · cases hk
theorem spTrue_ok {g : Nat} (h : ∀ w, Calls P g #[] w fun en w' => en = .returned (.bool true) ∧ Below w.heap.size w w') : SpOk P (spTrue g) := by
  intro f k hk args σ y hy
  unfold spTrue at hk
  split at hk
  · rename_i hb
    obtain rfl := beq_iff'.1 hb
    obtain rfl := Option.some.inj hk
    cases args with
    | nil => obtain rfl := (show _ = y from hy); exact FunOk.of_any rfl fun e w => h w
    | cons => exact hy.elim
  · cases hk

/-! An argument's leaves. -/
def Lf.ok : Lf → Value → Prop
  | .b, v => ∃ b, v = .bool b
  | .i k, v => ∃ n, v = .int k n ∧ (Lit.int k n).wf = true
inductive All2 {α β : Type} (R : α → β → Prop) : List α → List β → Prop where
  | nil : All2 R [] []
  | cons {a b l m} : R a b → All2 R l m → All2 R (a :: l) (b :: m)
theorem All2.append {α β : Type} {R : α → β → Prop} {l l' : List α} {m m' : List β} (h : All2 R l m) (k : All2 R l' m') : All2 R (l ++ l') (m ++ m') := by
  induction h with
  | nil => exact k
  | cons h _ ih => exact .cons h ih
theorem All2.length {α β : Type} {R : α → β → Prop} {l : List α} {m : List β} (h : All2 R l m) : l.length = m.length := by
  induction h with
  | nil => rfl
  | cons _ _ ih => simp [ih]

section
variable {H : Type} {enc : TypeId × Value → H} {w : World} {base : Nat} {spare : Nat → Bool} {held : Bool}
theorem cellsOf_info (hT : TbOk P tb) {t : TypeId} {i : TypeInfo} (h : tb.info t = some i) : P.cellsOf t = i.size := by simp [Program.cellsOf, hT.info h]
def LvOk (P : Program) (enc : TypeId × Value → H) (w : World) (base : Nat) (spare : Nat → Bool) (held : Bool) (f : TypeId → Option (List Lf)) : Prop :=
  ∀ t ls cs n x, f t = some ls → DataW.trod enc P w base spare held n t cs = some x → All2 Lf.ok ls cs
theorem lvFs_ok (hT : TbOk P tb) {f : TypeId → Option (List Lf)} (hf : LvOk P enc w base spare held f) {m : Nat} {cs : List Value} : ∀ {fs : List Field} {off : Nat} {ls : List Lf}, lvFs tb f fs off = some ls →
    (∀ fd ∈ fs, ∃ x, DataW.trod enc P w base spare held m fd.type ((cs.drop fd.offset).take (P.cellsOf fd.type)) = some x) → All2 Lf.ok ls ((cs.drop off).take ls.length)
  | [], off, ls, h, _ => by
    obtain rfl := Option.some.inj h
    simpa using All2.nil
  | fd :: fs, off, ls, h, hx => by
    simp only [lvFs] at h
    split at h
    · rename_i l i hl hi
      split at h
      · rename_i hb
        obtain ⟨h1, h2⟩ := Bool.and_eq_true_iff.1 hb
        have h1 := beq_iff'.1 h1
        have h2 := beq_iff'.1 h2
        obtain ⟨r, hr, rfl⟩ := Option.map_eq_some_iff.1 h
        obtain ⟨x, hx1⟩ := hx fd List.mem_cons_self
        rw [cellsOf_info hT hi, h1, ← h2] at hx1
        have a1 := hf _ _ _ _ _ hl hx1
        have a2 := lvFs_ok hT hf hr fun g hg => hx g (List.mem_cons_of_mem _ hg)
        rw [← h2, ← List.drop_drop] at a2
        have := a1.append a2
        rw [List.length_append]
        have he : ∀ (L : List Value) (a b : Nat), L.take a ++ (L.drop a).take b = L.take (a + b) := fun L a b => by
          rw [List.take_add]
        rw [← he]
        exact this
      · cases h
    · cases h
theorem lvRep_len {l : List Lf} : ∀ n, (lvRep l n).length = n * l.length
  | 0 => by simp [lvRep]
  | n + 1 => by rw [lvRep, List.length_append, lvRep_len n, Nat.add_mul]; omega
theorem lvRep_ok {l : List Lf} {cs : List Value} {c : Nat} (hc : l.length = c) : ∀ {n k : Nat}, (∀ i, i < n → All2 Lf.ok l ((cs.drop ((k + i) * c)).take c)) → All2 Lf.ok (lvRep l n) ((cs.drop (k * c)).take (n * c))
  | 0, k, _ => by simpa [lvRep] using All2.nil
  | n + 1, k, h => by
    have a1 := h 0 (by omega)
    have a2 := lvRep_ok hc (n := n) (k := k + 1) fun i hi => by
      have := h (i + 1) (by omega)
      rwa [show k + (i + 1) = k + 1 + i by omega] at this
    have := a1.append a2
    rw [Nat.add_zero, show (k + 1) * c = k * c + c by rw [Nat.add_mul]; omega, ← List.drop_drop, ← List.take_add] at this
    rw [lvRep, show (n + 1) * c = c + n * c by rw [Nat.add_mul]; omega]
    exact this
theorem chkLen_some (hT : TbOk P tb) {t : TypeId} {o : Option (List Lf)} {ls : List Lf} (h : chkLen tb t o = some ls) : o = some ls ∧ ls.length = P.cellsOf t := by
  unfold chkLen at h
  split at h
  · rename_i l i hi
    split at h
    · rename_i hb
      obtain rfl := Option.some.inj h
      exact ⟨rfl, by rw [cellsOf_info hT hi]; exact beq_iff'.1 hb⟩
    · cases h
  · cases h
theorem leaves_ok (hT : TbOk P tb) : ∀ d, LvOk P enc w base spare held (leaves tb d)
  | 0 => fun _ _ _ _ _ h => by cases h
  | d + 1 => by
    intro t ls cs n x h hx
    simp only [leaves] at h
    split at h
    · rename_i hu
      obtain rfl := Option.some.inj h
      obtain ⟨b, rfl, _⟩ := DataW.trod_bool (hT.und hu) hx
      exact .cons ⟨b, rfl⟩ .nil
    · rename_i k hu
      obtain rfl := Option.some.inj h
      obtain ⟨v, rfl, _, hw⟩ := DataW.trod_int (hT.und hu) hx
      exact .cons ⟨v, rfl, hw⟩ .nil
    · rename_i fs hu
      obtain ⟨h, hll⟩ := chkLen_some hT h
      obtain ⟨xs, m, _, _, hl, hxl, hg⟩ := DataW.trod_struct (hT.und hu) hx
      have := lvFs_ok hT (leaves_ok hT d) (m := m) (cs := cs) h fun fd hfd => by
        obtain ⟨j, hj⟩ := List.getElem?_of_mem hfd
        have h1 := hg j fd (by rw [← Array.getElem?_toList]; exact hj)
        have hlt : j < xs.length := by
          rw [hxl]
          have := (List.getElem?_eq_some_iff.1 hj).1
          simpa using this
        rw [List.getElem?_eq_getElem hlt] at h1
        exact ⟨_, h1⟩
      rwa [List.drop_zero, hll, ← hl, List.take_length] at this
    · rename_i n' e hu
      split at h
      · rename_i l i hl hi
        split at h
        · rename_i hb
          obtain ⟨h, hll⟩ := chkLen_some hT h
          obtain rfl := Option.some.inj h
          have hb := beq_iff'.1 hb
          obtain ⟨xs, m, _, _, hlen, hxl, hg⟩ := DataW.trod_array (hT.und hu) hx
          have := lvRep_ok (cs := cs) hb (n := n') (k := 0) fun j hj => by
            have h1 := hg j hj
            rw [List.getElem?_eq_getElem (by omega), cellsOf_info hT hi] at h1
            rw [Nat.zero_add]
            exact leaves_ok hT d _ _ _ _ _ hl h1
          rwa [Nat.zero_mul, List.drop_zero, ← hb, ← lvRep_len, hll, ← hlen, List.take_length] at this
        · cases h
      · cases h
    · cases h
end

/-! Leaves in names: the truth value bs j, the number ns j, for leaf j. -/
def Lf.cv (bs : Nat → Bool) (ns : Nat → Int) (j : Nat) : Lf → Cv
  | .b => .b (bs j) false
  | .i k => .i k (ns j) false
def symL (bs : Nat → Bool) (ns : Nat → Int) : Nat → List Lf → List Cv
  | _, [] => []
  | j, l :: ls => l.cv bs ns j :: symL bs ns (j + 1) ls
/-- Each number is one of its kind. -/
def WfL (ns : Nat → Int) (ls : List Lf) : Prop := ∀ j k, ls[j]? = some (.i k) → (Lit.int k (ns j)).wf = true
def getB (cs : List Value) (j : Nat) : Bool := match cs[j]? with
  | some (.bool b) => b
  | _ => false
def getN (cs : List Value) (j : Nat) : Int := match cs[j]? with
  | some (.int _ n) => n
  | _ => 0
theorem symL_of {c0 : List Value} : ∀ {ls : List Lf} {cs : List Value} {j : Nat}, All2 Lf.ok ls cs → (∀ i, cs[i]? = c0[j + i]?) → (∀ e, cs = (symL (getB c0) (getN c0) j ls).map (·.den e)) ∧ ∀ i k, ls[i]? = some (.i k) → (Lit.int k (getN c0 (j + i))).wf = true
  | _, _, j, .nil, _ => ⟨fun _ => rfl, fun i k h => by simp at h⟩
  | l :: ls, c :: cs, j, .cons hc h, hi => by
    obtain ⟨h1, h2⟩ := symL_of (j := j + 1) h fun i => by
      have := hi (i + 1)
      rw [show j + (i + 1) = j + 1 + i by omega] at this
      exact this
    have h0 : c0[j]? = some c := by have := hi 0; simpa using this.symm
    refine ⟨fun e => ?_, fun i k hk => ?_⟩
    · have hd : c = (l.cv (getB c0) (getN c0) j).den e := by
        cases l with
        | b => obtain ⟨b, rfl⟩ := hc; simp [Lf.cv, Cv.den, getB, h0]
        | i k => obtain ⟨n, rfl, _⟩ := hc; simp [Lf.cv, Cv.den, getN, h0]
      rw [symL, List.map_cons, ← h1 e, ← hd]
    · cases i with
      | zero =>
        obtain rfl : l = .i k := by simpa using hk
        obtain ⟨n, rfl, hw⟩ := hc
        simpa [getN, h0] using hw
      | succ i =>
        have := h2 i k (by simpa using hk)
        rwa [show j + 1 + i = j + (i + 1) by omega] at this
theorem symL_free (bs : Nat → Bool) (ns : Nat → Int) : ∀ (ls : List Lf) (j : Nat), (symL bs ns j ls).all Cv.freeB = true
  | [], _ => rfl
  | l :: ls, j => by
    rw [symL, List.all_cons, symL_free bs ns ls]
    cases l <;> rfl

section
variable {H : Type} {enc : TypeId × Value → H} {w : World} {base : Nat} {spare : Nat → Bool} {held : Bool} {t : TypeId} {v : Value} {dt : DataW H} {ps : List MemPlace} {r : Reach} {b0 : Nat}
def isWide (tb : Tb) (t : TypeId) : Bool := match tb.und t with
  | some (.struct _) => true
  | some (.array _ _) => true
  | _ => false
theorem okWide_array {n : Nat} {e : TypeId} (ht : P.underlying t = some (.array n e)) (h : Value.okWide P w r b0 t v) : ∃ cs, v = .agg cs ∧ cs.size = P.cellsOf t := by
  simp only [Value.okWide, ht] at h
  obtain ⟨cs, h1, h2, _⟩ := h
  exact ⟨cs, h1, h2⟩
/-- A struct or an array, in names. -/
theorem open_sym (hT : TbOk P tb) {d : Nat} {ls : List Lf} (hw : isWide tb t = true) (hl : leaves tb d t = some ls) (hv : Value.okWide P w r b0 t v) (h : DataW.Trod enc P w base spare held t v dt ps) :
    ∃ (bs : Nat → Bool) (ns : Nat → Int), v = (Sv.agg (symL bs ns 0 ls)).den env0 ∧ WfL ns ls := by
  have hv' : ∃ cs, v = .agg cs ∧ cs.size = P.cellsOf t := by
    unfold isWide at hw
    split at hw
    · rename_i hu; exact okWide_struct (hT.und hu) hv
    · rename_i hu; exact okWide_array (hT.und hu) hv
    · cases hw
  obtain ⟨cs, rfl, -⟩ := hv'
  obtain ⟨fuel, hf⟩ := h
  have h2 := leaves_ok hT d t ls cs.toList fuel _ hl (by simpa [Value.cells] using hf)
  obtain ⟨h3, h4⟩ := symL_of (c0 := cs.toList) (j := 0) h2 (fun i => by rw [Nat.zero_add])
  refine ⟨getB cs.toList, getN cs.toList, ?_, fun j k hj => by have := h4 j k hj; rwa [Nat.zero_add] at this⟩
  show Value.agg cs = .agg (densA env0 _)
  unfold densA
  rw [← h3 env0]
end
end
end Sx
end Go.Proofs.Ytladkknbkgomfaa

/-
  The table of the program's types and functions.
-/
set_option linter.unusedSimpArgs false
set_option linter.unusedVariables false
namespace Go.Proofs.Ytladkknbkgomfaa
open Sx
set_option maxRecDepth 100000

noncomputable def tbl : Tb := { ty := [(0, Try.t0), (1, Try.t1), (2, Try.t2), (3, Try.t3), (4, Try.t4), (5, Try.t5), (6, Try.t6), (7, Try.t7), (8, Try.t8), (9, Try.t9), (10, Try.t10), (11, Try.t11), (12, Try.t12), (13, Try.t13), (14, Try.t14), (15, Try.t15), (16, Try.t16), (17, Try.t17), (18, Try.t18), (19, Try.t19), (20, Try.t20), (21, Try.t21), (22, Try.t22), (23, Try.t23), (24, Try.t24), (25, Try.t25), (26, Try.t26), (27, Try.t27), (28, Try.t28), (29, Try.t29), (30, Try.t30), (31, Try.t31), (32, Try.t32), (33, Try.t33), (34, Try.t34), (35, Try.t35), (36, Try.t36), (37, Try.t37), (38, Try.t38), (39, Try.t39), (40, Try.t40), (41, Try.t41), (42, Try.t42), (43, Try.t43), (44, Try.t44), (45, Try.t45), (46, Try.t46), (47, Try.t47), (48, Try.t48), (49, Try.t49), (50, Try.t50), (51, Try.t51), (52, Try.t52), (53, Try.t53), (54, Try.t54), (55, Try.t55), (56, Try.t56), (57, Try.t57), (58, Try.t58), (59, Try.t59), (60, Try.t60), (61, Try.t61), (62, Try.t62), (63, Try.t63), (64, Try.t64), (65, Try.t65), (66, Try.t66), (67, Try.t67), (68, Try.t68), (69, Try.t69), (70, Try.t70), (71, Try.t71), (72, Try.t72), (73, Try.t73), (74, Try.t74), (75, Try.t75), (76, Try.t76), (77, Try.t77), (78, Try.t78), (79, Try.t79), (80, Try.t80), (81, Try.t81), (82, Try.t82), (83, Try.t83), (84, Try.t84), (85, Try.t85), (86, Try.t86), (87, Try.t87), (88, Try.t88), (89, Try.t89), (90, Try.t90), (91, Try.t91), (92, Try.t92), (93, Try.t93), (94, Try.t94), (95, Try.t95), (96, Try.t96), (97, Try.t97), (98, Try.t98), (99, Try.t99), (100, Try.t100), (101, Try.t101), (102, Try.t102), (103, Try.t103), (104, Try.t104), (105, Try.t105), (106, Try.t106), (107, Try.t107), (108, Try.t108), (109, Try.t109), (110, Try.t110), (111, Try.t111), (112, Try.t112), (113, Try.t113), (114, Try.t114), (115, Try.t115), (116, Try.t116), (117, Try.t117), (118, Try.t118), (119, Try.t119), (120, Try.t120), (121, Try.t121), (122, Try.t122), (123, Try.t123), (124, Try.t124), (125, Try.t125), (126, Try.t126), (127, Try.t127), (128, Try.t128), (129, Try.t129), (130, Try.t130), (131, Try.t131), (132, Try.t132), (133, Try.t133), (134, Try.t134), (135, Try.t135), (136, Try.t136), (137, Try.t137), (138, Try.t138), (139, Try.t139), (140, Try.t140), (141, Try.t141), (142, Try.t142), (143, Try.t143), (144, Try.t144), (145, Try.t145), (146, Try.t146), (147, Try.t147), (148, Try.t148), (149, Try.t149), (150, Try.t150), (151, Try.t151), (152, Try.t152), (153, Try.t153), (154, Try.t154), (155, Try.t155), (156, Try.t156), (157, Try.t157), (158, Try.t158), (159, Try.t159), (160, Try.t160), (161, Try.t161), (162, Try.t162), (163, Try.t163), (164, Try.t164), (165, Try.t165), (166, Try.t166), (167, Try.t167)], fn := [(3, Try.f3), (4, Try.f4), (5, Try.f5), (6, Try.f6), (7, Try.f7), (8, Try.f8), (9, Try.f9), (10, Try.f10), (11, Try.f11), (12, Try.f12), (13, Try.f13), (14, Try.f14), (15, Try.f15), (16, Try.f16), (17, Try.f17), (18, Try.f18), (19, Try.f19), (20, Try.f20), (21, Try.f21), (22, Try.f22), (23, Try.f23), (24, Try.f24), (25, Try.f25), (26, Try.f26), (27, Try.f27), (28, Try.f28), (29, Try.f29), (30, Try.f30), (31, Try.f31), (32, Try.f32), (33, Try.f33), (34, Try.f34), (35, Try.f35), (36, Try.f36), (37, Try.f37), (38, Try.f38), (39, Try.f39), (40, Try.f40), (41, Try.f41), (42, Try.f42), (43, Try.f43), (44, Try.f44), (45, Try.f45), (46, Try.f46), (47, Try.f47), (48, Try.f48), (49, Try.f49), (50, Try.f50), (51, Try.f51), (52, Try.f52), (53, Try.f53), (54, Try.f54), (55, Try.f55), (56, Try.f56), (57, Try.f57), (58, Try.f58), (59, Try.f59), (60, Try.f60), (61, Try.f61), (62, Try.f62), (63, Try.f63), (64, Try.f64), (65, Try.f65), (66, Try.f66), (67, Try.f67), (68, Try.f68), (69, Try.f69), (70, Try.f70), (71, Try.f71), (72, Try.f72), (73, Try.f73), (74, Try.f74), (75, Try.f75), (76, Try.f76), (77, Try.f77), (78, Try.f78), (79, Try.f79), (80, Try.f80), (81, Try.f81), (82, Try.f82), (83, Try.f83), (84, Try.f84), (85, Try.f85)], eq := [0, 1, 2, 3, 4, 5, 6, 7, 8, 9, 10, 11, 12, 15, 16, 17, 20, 21, 22, 23, 24, 25, 26, 27, 28, 29, 30, 31, 32, 33, 34, 35, 36, 37, 38, 39, 40, 41, 42, 43, 44, 45, 46, 47, 48, 49, 50, 51, 52, 53, 54, 55, 56, 57, 58, 59, 60, 61, 62, 63, 64, 65, 66, 67, 68, 69, 70, 71, 72, 73, 74, 75, 76, 77, 78, 79, 80, 81, 82, 83, 84, 85, 86, 87, 88, 89, 90, 91, 92, 93, 94, 95, 96, 97, 98, 99, 100, 101, 102, 103, 104, 105, 106, 107, 108, 109, 110, 111, 112, 113, 114, 115, 116, 117, 118, 119, 120, 121, 122, 123, 124, 125, 126, 127, 128, 129, 130, 131, 132, 133, 134, 135, 136, 137, 138, 139, 140, 141, 142, 143, 144, 145, 146, 147, 148, 149, 150, 151, 152, 153, 156, 159, 160, 161, 162, 163, 164, 167] }
theorem tbl_ty : TyOk Try.prog tbl.ty := ⟨Try.type0, Try.type1, Try.type2, Try.type3, Try.type4, Try.type5, Try.type6, Try.type7, Try.type8, Try.type9, Try.type10, Try.type11, Try.type12, Try.type13, Try.type14, Try.type15, Try.type16, Try.type17, Try.type18, Try.type19, Try.type20, Try.type21, Try.type22, Try.type23, Try.type24, Try.type25, Try.type26, Try.type27, Try.type28, Try.type29, Try.type30, Try.type31, Try.type32, Try.type33, Try.type34, Try.type35, Try.type36, Try.type37, Try.type38, Try.type39, Try.type40, Try.type41, Try.type42, Try.type43, Try.type44, Try.type45, Try.type46, Try.type47, Try.type48, Try.type49, Try.type50, Try.type51, Try.type52, Try.type53, Try.type54, Try.type55, Try.type56, Try.type57, Try.type58, Try.type59, Try.type60, Try.type61, Try.type62, Try.type63, Try.type64, Try.type65, Try.type66, Try.type67, Try.type68, Try.type69, Try.type70, Try.type71, Try.type72, Try.type73, Try.type74, Try.type75, Try.type76, Try.type77, Try.type78, Try.type79, Try.type80, Try.type81, Try.type82, Try.type83, Try.type84, Try.type85, Try.type86, Try.type87, Try.type88, Try.type89, Try.type90, Try.type91, Try.type92, Try.type93, Try.type94, Try.type95, Try.type96, Try.type97, Try.type98, Try.type99, Try.type100, Try.type101, Try.type102, Try.type103, Try.type104, Try.type105, Try.type106, Try.type107, Try.type108, Try.type109, Try.type110, Try.type111, Try.type112, Try.type113, Try.type114, Try.type115, Try.type116, Try.type117, Try.type118, Try.type119, Try.type120, Try.type121, Try.type122, Try.type123, Try.type124, Try.type125, Try.type126, Try.type127, Try.type128, Try.type129, Try.type130, Try.type131, Try.type132, Try.type133, Try.type134, Try.type135, Try.type136, Try.type137, Try.type138, Try.type139, Try.type140, Try.type141, Try.type142, Try.type143, Try.type144, Try.type145, Try.type146, Try.type147, Try.type148, Try.type149, Try.type150, Try.type151, Try.type152, Try.type153, Try.type154, Try.type155, Try.type156, Try.type157, Try.type158, Try.type159, Try.type160, Try.type161, Try.type162, Try.type163, Try.type164, Try.type165, Try.type166, Try.type167, trivial⟩
theorem tbl_fn : FnOk Try.prog tbl.fn := ⟨⟨Try.func3, fun args w => Try.call3 args w⟩, ⟨Try.func4, fun args w => Try.call4 args w⟩, ⟨Try.func5, fun args w => Try.call5 args w⟩, ⟨Try.func6, fun args w => Try.call6 args w⟩, ⟨Try.func7, fun args w => Try.call7 args w⟩, ⟨Try.func8, fun args w => Try.call8 args w⟩, ⟨Try.func9, fun args w => Try.call9 args w⟩, ⟨Try.func10, fun args w => Try.call10 args w⟩, ⟨Try.func11, fun args w => Try.call11 args w⟩, ⟨Try.func12, fun args w => Try.call12 args w⟩, ⟨Try.func13, fun args w => Try.call13 args w⟩, ⟨Try.func14, fun args w => Try.call14 args w⟩, ⟨Try.func15, fun args w => Try.call15 args w⟩, ⟨Try.func16, fun args w => Try.call16 args w⟩, ⟨Try.func17, fun args w => Try.call17 args w⟩, ⟨Try.func18, fun args w => Try.call18 args w⟩, ⟨Try.func19, fun args w => Try.call19 args w⟩, ⟨Try.func20, fun args w => Try.call20 args w⟩, ⟨Try.func21, fun args w => Try.call21 args w⟩, ⟨Try.func22, fun args w => Try.call22 args w⟩, ⟨Try.func23, fun args w => Try.call23 args w⟩, ⟨Try.func24, fun args w => Try.call24 args w⟩, ⟨Try.func25, fun args w => Try.call25 args w⟩, ⟨Try.func26, fun args w => Try.call26 args w⟩, ⟨Try.func27, fun args w => Try.call27 args w⟩, ⟨Try.func28, fun args w => Try.call28 args w⟩, ⟨Try.func29, fun args w => Try.call29 args w⟩, ⟨Try.func30, fun args w => Try.call30 args w⟩, ⟨Try.func31, fun args w => Try.call31 args w⟩, ⟨Try.func32, fun args w => Try.call32 args w⟩, ⟨Try.func33, fun args w => Try.call33 args w⟩, ⟨Try.func34, fun args w => Try.call34 args w⟩, ⟨Try.func35, fun args w => Try.call35 args w⟩, ⟨Try.func36, fun args w => Try.call36 args w⟩, ⟨Try.func37, fun args w => Try.call37 args w⟩, ⟨Try.func38, fun args w => Try.call38 args w⟩, ⟨Try.func39, fun args w => Try.call39 args w⟩, ⟨Try.func40, fun args w => Try.call40 args w⟩, ⟨Try.func41, fun args w => Try.call41 args w⟩, ⟨Try.func42, fun args w => Try.call42 args w⟩, ⟨Try.func43, fun args w => Try.call43 args w⟩, ⟨Try.func44, fun args w => Try.call44 args w⟩, ⟨Try.func45, fun args w => Try.call45 args w⟩, ⟨Try.func46, fun args w => Try.call46 args w⟩, ⟨Try.func47, fun args w => Try.call47 args w⟩, ⟨Try.func48, fun args w => Try.call48 args w⟩, ⟨Try.func49, fun args w => Try.call49 args w⟩, ⟨Try.func50, fun args w => Try.call50 args w⟩, ⟨Try.func51, fun args w => Try.call51 args w⟩, ⟨Try.func52, fun args w => Try.call52 args w⟩, ⟨Try.func53, fun args w => Try.call53 args w⟩, ⟨Try.func54, fun args w => Try.call54 args w⟩, ⟨Try.func55, fun args w => Try.call55 args w⟩, ⟨Try.func56, fun args w => Try.call56 args w⟩, ⟨Try.func57, fun args w => Try.call57 args w⟩, ⟨Try.func58, fun args w => Try.call58 args w⟩, ⟨Try.func59, fun args w => Try.call59 args w⟩, ⟨Try.func60, fun args w => Try.call60 args w⟩, ⟨Try.func61, fun args w => Try.call61 args w⟩, ⟨Try.func62, fun args w => Try.call62 args w⟩, ⟨Try.func63, fun args w => Try.call63 args w⟩, ⟨Try.func64, fun args w => Try.call64 args w⟩, ⟨Try.func65, fun args w => Try.call65 args w⟩, ⟨Try.func66, fun args w => Try.call66 args w⟩, ⟨Try.func67, fun args w => Try.call67 args w⟩, ⟨Try.func68, fun args w => Try.call68 args w⟩, ⟨Try.func69, fun args w => Try.call69 args w⟩, ⟨Try.func70, fun args w => Try.call70 args w⟩, ⟨Try.func71, fun args w => Try.call71 args w⟩, ⟨Try.func72, fun args w => Try.call72 args w⟩, ⟨Try.func73, fun args w => Try.call73 args w⟩, ⟨Try.func74, fun args w => Try.call74 args w⟩, ⟨Try.func75, fun args w => Try.call75 args w⟩, ⟨Try.func76, fun args w => Try.call76 args w⟩, ⟨Try.func77, fun args w => Try.call77 args w⟩, ⟨Try.func78, fun args w => Try.call78 args w⟩, ⟨Try.func79, fun args w => Try.call79 args w⟩, ⟨Try.func80, fun args w => Try.call80 args w⟩, ⟨Try.func81, fun args w => Try.call81 args w⟩, ⟨Try.func82, fun args w => Try.call82 args w⟩, ⟨Try.func83, fun args w => Try.call83 args w⟩, ⟨Try.func84, fun args w => Try.call84 args w⟩, ⟨Try.func85, fun args w => Try.call85 args w⟩, trivial⟩
theorem tbl_eq : (tbl.eq.all fun t => !Try.prog.stoodInHeld t && !Try.prog.eqGuardType Try.prog.depth t) = true := by kernel_rfl
theorem tbl_ok : TbOk Try.prog tbl := ⟨tbl_ty, tbl_fn, fun t ht => by
  have h := List.all_eq_true.1 tbl_eq t ht
  simpa using h⟩
theorem tbl_any : Try.prog.follows .mixedOrders = true := by kernel_rfl
end Go.Proofs.Ytladkknbkgomfaa

/-
  The examples of the statements about package protect: works answers true, in any world.
-/
set_option linter.unusedSimpArgs false
set_option linter.unusedVariables false
namespace Go.Proofs.Ytladkknbkgomfaa
open Sx Go.RowKit
set_option maxRecDepth 100000
/-- The functions that write into memory that they are handed. -/
def wr5 : List Nat := [65, 66, 68, 36, 38, 39, 40, 41, 42, 43, 56, 20, 24, 9, 10]
theorem works5_eval : okT (evFn tbl wr5 (fun _ => none) 300 12 4 [] st0) = true := by kernel_rfl
theorem works5_any (w : World) : Calls Try.prog 4 #[] w fun en w' => en = .returned (.bool true) ∧ Below w.heap.size w w' :=
  true_any tbl_ok tbl_any spNone (args := []) (fun _ h => by cases h) works5_eval w
end Go.Proofs.Ytladkknbkgomfaa
