/-
  Code: what runs one behind the other, tests, blocks, loops.
-/
import Derived.Test.YtpdhkgfdmpofiaaGreatDoorSxk
import Derived.LoopN
set_option linter.unusedSimpArgs false
set_option linter.unusedVariables false
namespace Go.Proofs.YtpdhkgfdmpofiaaGreatDoor
namespace Sx
open Go.RowKit

section
variable {P : Program} {tb : Tb}

inductive It where
  | code (c : Code)
  | blk (id : Nat)
inductive Out where
  | normal
  | exit (id : Nat)
  | ret
  | stop (k : List It)
def stackPost (P : Program) (Q : Exit → Act → World → Prop) : List It → Exit → Act → World → Prop
  | [] => Q
  | .code c :: k => Exit.then (fun a w => c.wp P (stackPost P Q k) a w) (stackPost P Q k)
  | .blk id :: k => Exit.inBlock id (stackPost P Q k)
theorem stackPost_append (Q : Exit → Act → World → Prop) (k k' : List It) : stackPost P Q (k ++ k') = stackPost P (stackPost P Q k') k := by
  induction k with
  | nil => rfl
  | cons x k ih => cases x <;> simp only [List.cons_append, stackPost, ih]
def Post (P : Program) (Q : Exit → Act → World → Prop) : Out → Act → World → Prop
  | .normal => Q .normal
  | .exit id => Q (.exit id)
  | .ret => Q .ret
  | .stop k => stackPost P Q k .normal
abbrev Leaf := Out × St
def CodeOk (P : Program) (N : Nat) (σ : St) (c : Code) (x : Leaf) : Prop :=
  ∀ (C : Ctx) (e : Env) (a : Act) (w : World) (Q : Exit → Act → World → Prop), Rel C N e (look σ) a w → (∀ e' a' w', Rel C N e' (look x.2) a' w' → Post P Q x.1 a' w') → c.wp P Q a w

/-! Ways that meet again. -/
/-- What stands in a store is known there. -/
structure WS (s : Sto) : Prop where
  tm : ∀ t v, s (.t t) = some (.sv v) → v.sc s
  cl : ∀ id off v, s (.c id off) = some (.cv v) → v.sc s ∧ ∃ t ro n cp, s (.k id) = some (.bk (.ar t ro n cp)) ∧ off < n
  cp : ∀ id b c es, s (.k id) = some (.bk b) → b.cp = some (c, es) → knn s c
theorem Rel.ws {C : Ctx} {N : Nat} {e : Env} {s : Sto} {a : Act} {w : World} (h : Rel C N e s a w) : WS s :=
  ⟨fun t v ht => (h.tm t v ht).2.2, fun id off v hv => ⟨(h.hp.cl id off v hv).1, (h.hp.cl id off v hv).2.1⟩, fun id b c es hb hc => (h.hp.cp id b c es hb hc).1⟩
/-- s' says no more than s. -/
structure Wk (s s' : Sto) : Prop where
  tm : ∀ t v, s' (.t t) = some (.sv v) → (∃ u, s (.t t) = some (.sv u) ∧ ∀ e, v.den e = u.den e) ∧ v.sc s'
  cl : ∀ id off v, s' (.c id off) = some (.cv v) → (∃ u, s (.c id off) = some (.cv u) ∧ ∀ e, v.den e = u.den e) ∧ v.sc s' ∧ ∃ t ro n cp, s' (.k id) = some (.bk (.ar t ro n cp)) ∧ off < n
  k : ∀ id b, s' (.k id) = some (.bk b) → b.live = true → s (.k id) = some (.bk b)
  cp : ∀ id b c es, s' (.k id) = some (.bk b) → b.cp = some (c, es) → knn s' c
theorem Hp.wk {C : Ctx} {e : Env} {s s' : Sto} {w : World} (h : Hp C e s w) (k : Wk s s') (hpin : (∀ id p, C.pin id = some p → kn s' id) ∧ ∀ c m, C.pinn c = some m → knn s' c) : Hp C e s' w := by
  have rl : ∀ b : BI, b.rw = true → b.live = true := fun b hb => by cases b <;> first | rfl | cases hb
  refine ⟨h.new, ?_, ?_, ?_, ?_, ?_, ?_, ?_, ⟨fun id p hp => ⟨(h.pin.1 id p hp).1, hpin.1 id p hp⟩, fun c m hm => ⟨(h.pin.2 c m hm).1, hpin.2 c m hm⟩⟩, h.fr⟩
  · intro id off v hv
    obtain ⟨⟨u, hu, hd⟩, h2, h3⟩ := k.cl id off v hv
    exact ⟨h2, h3, (h.cl id off u hu).2.2.trans (by rw [hd])⟩
  · intro id t n cp hb; exact h.ar id t n cp (k.k id _ hb rfl)
  · intro id t ro n f cp hb; exact h.oq id t ro n f cp (k.k id _ hb rfl)
  · intro id b c es hb hc
    have hl : b.live = true := by cases b <;> first | rfl | cases hc
    exact ⟨k.cp id b c es hb hc, (h.cp id b c es (k.k id b hb hl) hc).2⟩
  · intro id id' b b' h1 h2 h3 h4; exact h.inj id id' b b' (k.k id b h1 (rl b h3)) (k.k id' b' h2 h4) h3 h4
  · intro id b h1 h2; exact h.lt id b (k.k id b h1 h2) h2
  · intro id b h1 h2; exact h.mu id b (k.k id b h1 (rl b h2)) h2
theorem Rel.wk {C : Ctx} {N : Nat} {e : Env} {s s' : Sto} {a : Act} {w : World} (h : Rel C N e s a w) (k : Wk s s') (hpin : (∀ id p, C.pin id = some p → kn s' id) ∧ ∀ c m, C.pinn c = some m → knn s' c) : Rel C N e s' a w := by
  refine ⟨h.sz, h.df, ?_, h.hp.wk k hpin⟩
  intro t v ht
  obtain ⟨⟨u, hu, hd⟩, h2⟩ := k.tm t v ht
  obtain ⟨h3, h4, _⟩ := h.tm t u hu
  exact ⟨h3, h4.trans (hd e).symm, h2⟩

def newL (σ x : St) : List Wr := x.lg.take (x.lg.length - σ.lg.length)
theorem newL_ext {σ x : St} (h : Ext σ x) : ∃ ws, σ.apps ws = some x ∧ newL σ x = ws.reverse := by
  obtain ⟨ws, h1, h2⟩ := h
  refine ⟨ws, h1, ?_⟩
  unfold newL
  rw [h2]
  simp
def tmD : List Wr → List Nat → List Nat
  | [], acc => acc
  | .tm n _ :: l, acc => tmD l (bif memb acc n then acc else n :: acc)
  | .ft n :: l, acc => tmD l (bif memb acc n then acc else n :: acc)
  | _ :: l, acc => tmD l acc
def memb2 : List (Nat × Nat) → Nat → Nat → Bool
  | [], _, _ => false
  | (a, b) :: l, n, m => match Nat.beq a n && Nat.beq b m with
    | true => true
    | false => memb2 l n m
/-- The cells of blocks of σ that are written. -/
def clD (σ : St) : List Wr → List (Nat × Nat) → List (Nat × Nat)
  | [], acc => acc
  | .cell id off _ :: l, acc => clD σ l (bif memb2 acc id off then acc else match alook σ.bk id with
    | some _ => (id, off) :: acc
    | none => acc)
  | _ :: l, acc => clD σ l acc
/-- No block of σ is laid anew. -/
def noNew (σ : St) : List Wr → Bool
  | [] => true
  | .new id _ :: l => match alook σ.bk id with
    | some _ => false
    | none => noNew σ l
  | _ :: l => noNew σ l
def mTm (b : Bool) (x y : St) (t : Nat) : Wr := match alook x.tm t, alook y.tm t with
  | some v, some u => match Sv.ite b v u with
    | some z => .tm t z
    | none => .ft t
  | _, _ => .ft t
def cellAt (x : St) (id off : Nat) : Option Cv := (alook x.bk id).bind fun b => b.cell off
def mCl (b : Bool) (x y : St) : List (Nat × Nat) → Option (List Wr)
  | [] => some []
  | (id, off) :: l => match cellAt x id off, cellAt y id off, mCl b x y l with
    | some c, some d, some ws => match Cv.ite b c d with
      | some z => some (.cell id off z :: ws)
      | none => none
    | _, _, _ => none
def merge0 (σ : St) (b : Bool) (x y : St) : Option St :=
  let lx := newL σ x
  let ly := newL σ y
  match noNew σ lx && noNew σ ly with
  | true => match mCl b x y (clD σ ly (clD σ lx [])) with
    | some ws => fL fWr ((tmD ly (tmD lx [])).map (mTm b x y) ++ ws) fun ws => fapps ws σ id
    | none => none
  | false => none
theorem merge_eq {σ : St} {b : Bool} {x y : St} : merge0 σ b x y = match noNew σ (newL σ x) && noNew σ (newL σ y) with
    | true => match mCl b x y (clD σ (newL σ y) (clD σ (newL σ x) [])) with
      | some ws => σ.apps ((tmD (newL σ y) (tmD (newL σ x) [])).map (mTm b x y) ++ ws)
      | none => none
    | false => none := by
  simp only [merge0, fL_fWr, fapps_eq, id]
/-- Two numbers that stand written out, and differ. -/
def litNe : Sv → Sv → Bool
  | .one (.i _ x true), .one (.i _ y true) => !(x == y)
  | _, _ => false
/-- No variable that both ways know is lost. -/
def okTm (σ : St) (b : Bool) (x y : St) : List Nat → Bool
  | [] => true
  | t :: l => match memb σ.vr t with
    | false => okTm σ b x y l
    | true => match alook x.tm t, alook y.tm t with
      | some v, some u => match Sv.ite b v u with
        | some _ => match memb σ.vr (t + 100000) with
          | true => match litNe v u with
            | true => false
            | false => okTm σ b x y l
          | false => okTm σ b x y l
        | none => false
      | _, _ => okTm σ b x y l
def merge (lo : Bool) (σ : St) (b : Bool) (x y : St) : Option St := match lo with
  | true => merge0 σ b x y
  | false => match okTm σ b x y (tmD (newL σ y) (tmD (newL σ x) [])) with
    | true => merge0 σ b x y
    | false => none
theorem merge_some {lo : Bool} {σ m x y : St} {b : Bool} (h : merge lo σ b x y = some m) : merge0 σ b x y = some m := by
  unfold merge at h
  split at h
  · exact h
  · split at h
    · exact h
    · cases h

theorem mem_tmD {n : Nat} : ∀ {l : List Wr} {acc : List Nat}, n ∈ acc ∨ (∃ v, Wr.tm n v ∈ l) ∨ Wr.ft n ∈ l → n ∈ tmD l acc
  | [], acc, h => by
    rcases h with h | ⟨v, h⟩ | h
    · exact h
    · cases h
    · cases h
  | x :: l, acc, h => by
    have put : ∀ m, n ∈ acc ∨ n = m → n ∈ (bif memb acc m then acc else m :: acc) := by
      intro m hm
      cases hb : memb acc m with
      | true =>
        rcases hm with hm | rfl
        · exact hm
        · exact memb_iff.1 hb
      | false =>
        rcases hm with hm | rfl
        · exact List.mem_cons_of_mem _ hm
        · exact List.mem_cons_self
    cases x with
    | tm m u =>
      refine mem_tmD (l := l) ?_
      rcases h with h | ⟨v, h⟩ | h
      · exact Or.inl (put m (Or.inl h))
      · cases h with
        | head => exact Or.inl (put n (Or.inr rfl))
        | tail _ h => exact Or.inr (Or.inl ⟨v, h⟩)
      · cases h with
        | tail _ h => exact Or.inr (Or.inr h)
    | ft m =>
      refine mem_tmD (l := l) ?_
      rcases h with h | ⟨v, h⟩ | h
      · exact Or.inl (put m (Or.inl h))
      · cases h with
        | tail _ h => exact Or.inr (Or.inl ⟨v, h⟩)
      · cases h with
        | head => exact Or.inl (put n (Or.inr rfl))
        | tail _ h => exact Or.inr (Or.inr h)
    | _ =>
      refine mem_tmD (l := l) ?_
      rcases h with h | ⟨v, h⟩ | h
      · exact Or.inl h
      · cases h with
        | tail _ h => exact Or.inr (Or.inl ⟨v, h⟩)
      · cases h with
        | tail _ h => exact Or.inr (Or.inr h)
theorem memb2_iff {l : List (Nat × Nat)} {n m : Nat} : memb2 l n m = true ↔ (n, m) ∈ l := by
  induction l with
  | nil => simp [memb2]
  | cons x l ih =>
    obtain ⟨a, b⟩ := x
    simp only [memb2]
    cases h : (Nat.beq a n && Nat.beq b m) with
    | true =>
      rw [Bool.and_eq_true, beq_iff', beq_iff'] at h
      obtain ⟨rfl, rfl⟩ := h
      simp
    | false =>
      simp only [ih, List.mem_cons, Prod.mk.injEq]
      constructor
      · exact Or.inr
      · rintro (⟨rfl, rfl⟩ | h')
        · simp at h
        · exact h'
theorem mem_clD {σ : St} {id off : Nat} (hk : (alook σ.bk id).isSome = true) : ∀ {l : List Wr} {acc : List (Nat × Nat)}, (id, off) ∈ acc ∨ (∃ v, Wr.cell id off v ∈ l) → (id, off) ∈ clD σ l acc
  | [], acc, h => by
    rcases h with h | ⟨v, h⟩
    · exact h
    · cases h
  | x :: l, acc, h => by
    cases x with
    | cell i o u =>
      refine mem_clD hk (l := l) ?_
      have put : (id, off) ∈ acc ∨ (id = i ∧ off = o) → (id, off) ∈ (bif memb2 acc i o then acc else match alook σ.bk i with | some _ => (i, o) :: acc | none => acc) := by
        intro hm
        cases hb : memb2 acc i o with
        | true =>
          rcases hm with hm | ⟨rfl, rfl⟩
          · exact hm
          · exact memb2_iff.1 hb
        | false =>
          simp only [cond_false]
          rcases hm with hm | ⟨rfl, rfl⟩
          · split
            · exact List.mem_cons_of_mem _ hm
            · exact hm
          · obtain ⟨z, hz⟩ := Option.isSome_iff_exists.1 hk
            rw [hz]
            exact List.mem_cons_self
      rcases h with h | ⟨v, h⟩
      · exact Or.inl (put (Or.inl h))
      · cases h with
        | head => exact Or.inl (put (Or.inr ⟨rfl, rfl⟩))
        | tail _ h => exact Or.inr ⟨v, h⟩
    | _ =>
      refine mem_clD hk (l := l) ?_
      rcases h with h | ⟨v, h⟩
      · exact Or.inl h
      · cases h with
        | tail _ h => exact Or.inr ⟨v, h⟩
theorem noNew_at {σ : St} {id : Nat} {b : Blk} : ∀ {l : List Wr}, noNew σ l = true → Wr.new id b ∈ l → alook σ.bk id = none
  | [], _, h => by cases h
  | x :: l, hn, h => by
    cases x with
    | new i c =>
      simp only [noNew] at hn
      split at hn
      · cases hn
      · rename_i hi
        cases h with
        | head => exact hi
        | tail _ h => exact noNew_at hn h
    | _ =>
      cases h with
      | tail _ h => exact noNew_at (l := l) hn h
theorem mCl_at {b : Bool} {x y : St} : ∀ {l : List (Nat × Nat)} {ws : List Wr}, mCl b x y l = some ws → (∀ z ∈ ws, ∃ id off c d e, z = .cell id off e ∧ cellAt x id off = some c ∧ cellAt y id off = some d ∧ Cv.ite b c d = some e) ∧ ∀ p ∈ l, ∃ e, Wr.cell p.1 p.2 e ∈ ws
  | [], ws, h => by
    obtain rfl := Option.some.inj h
    exact ⟨(fun z hz => absurd hz (by simp)), (fun p hp => absurd hp (by simp))⟩
  | (id, off) :: l, ws, h => by
    simp only [mCl] at h
    split at h
    · rename_i c d ws' hc hd hw
      split at h
      · rename_i e he
        obtain rfl := Option.some.inj h
        obtain ⟨r1, r2⟩ := mCl_at hw
        refine ⟨fun z hz => ?_, fun p hp => ?_⟩
        · cases hz with
          | head => exact ⟨id, off, c, d, e, rfl, hc, hd, he⟩
          | tail _ hz => exact r1 z hz
        · cases hp with
          | head => exact ⟨e, List.mem_cons_self⟩
          | tail _ hp => obtain ⟨e', he'⟩ := r2 p hp; exact ⟨e', List.mem_cons_of_mem _ he'⟩
      · cases h
    · cases h
/-- A place that nothing in a list writes. -/
theorem upds_same {s : Sto} {l : Loc} {ws : List Wr} (h : ∀ x ∈ ws, x.fn l = none) : upds s ws l = s l := by
  rw [upds_fns]
  have : fns ws l = none := by
    cases hf : fns ws l with
    | none => rfl
    | some y =>
      obtain ⟨x, hx, hx2⟩ := fns_some (ws := ws) (l := l) (by rw [hf]; rfl)
      rw [h x hx] at hx2; cases hx2
  show (fns ws l).getD (s l) = s l
  rw [this]; rfl
/-- A place that is written: by the last that does. -/
theorem upds_one {s : Sto} {l : Loc} {v : Option LV} {ws : List Wr} (hx : ∃ x ∈ ws, (x.fn l).isSome = true) (h : ∀ x ∈ ws, x.fn l = none ∨ x.fn l = some v) : upds s ws l = v := by
  rw [upds_fns]
  have : fns ws l = some v := by
    induction ws with
    | nil => obtain ⟨x, hx, _⟩ := hx; cases hx
    | cons y ws ih =>
      simp only [fns]
      cases hf : fns ws l with
      | some z =>
        have h' := fns_some (ws := ws) (l := l) (by rw [hf]; rfl)
        have := ih h' fun x hx => h x (List.mem_cons_of_mem _ hx)
        rw [hf] at this; exact this
      | none =>
        simp only []
        rcases h y List.mem_cons_self with h1 | h1
        · obtain ⟨x, hxm, hx2⟩ := hx
          cases hxm with
          | head => rw [h1] at hx2; cases hx2
          | tail _ hxm =>
            exfalso
            have : (fns ws l).isSome = true := by
              clear ih h
              induction ws with
              | nil => cases hxm
              | cons z ws ih2 =>
                simp only [fns]
                cases hf2 : fns ws l with
                | some _ => rfl
                | none =>
                  cases hxm with
                  | head => exact hx2
                  | tail _ hxm =>
                    simp only [fns, hf2] at hf
                    have := ih2 hf2 hxm
                    rw [hf2] at this; cases this
            rw [hf] at this; cases this
        · exact h1
  show (fns ws l).getD (s l) = v
  rw [this]; rfl
theorem mTm_tm {b : Bool} {x y : St} {t n : Nat} {r : Sv} (h : mTm b x y t = .tm n r) : ∃ p q, alook x.tm t = some p ∧ alook y.tm t = some q ∧ Sv.ite b p q = some r := by
  unfold mTm at h
  cases hp : alook x.tm t with
  | none => rw [hp] at h; cases h
  | some p =>
    cases hq : alook y.tm t with
    | none => rw [hp, hq] at h; cases h
    | some q =>
      rw [hp, hq] at h
      cases hr : Sv.ite b p q with
      | none => simp only [hr] at h; cases h
      | some r' =>
        simp only [hr] at h
        obtain ⟨_, rfl⟩ : t = n ∧ r' = r := by simpa using h
        exact ⟨p, q, rfl, rfl, hr⟩
theorem look_c_k {σ : St} {id off : Nat} {v : LV} (h : look σ (.c id off) = some v) : ∃ t ro n cp, look σ (.k id) = some (.bk (.ar t ro n cp)) ∧ off < n := by
  simp only [look] at h ⊢
  cases hb : alook σ.bk id with
  | none => rw [hb] at h; cases h
  | some b =>
    rw [hb] at h
    cases b with
    | ar t ro cs cp =>
      simp only [Option.bind_some, Blk.cell] at h
      refine ⟨t, ro, cs.length, cp, rfl, ?_⟩
      obtain ⟨c, hc, _⟩ := Option.map_eq_some_iff.1 h
      exact (List.getElem?_eq_some_iff.1 hc).1
    | oq t ro n f cp => cases h
    | gone => cases h
theorem look_k_c {σ : St} {id off n : Nat} {t : TypeId} {ro : Bool} {cp : Option (Nat × Nat)} (h : look σ (.k id) = some (.bk (.ar t ro n cp))) (ho : off < n) : ∃ c, look σ (.c id off) = some (.cv c) := by
  simp only [look] at h ⊢
  cases hb : alook σ.bk id with
  | none => rw [hb] at h; cases h
  | some b =>
    rw [hb] at h
    cases b with
    | ar t' ro' cs cp' =>
      simp only [Option.map_some, Blk.info, Option.some.injEq, LV.bk.injEq, BI.ar.injEq] at h
      obtain ⟨_, _, rfl, _⟩ := h
      exact ⟨cs[off], by simp [Blk.cell, ho]⟩
    | oq t' ro' n' f cp' => simp [Blk.info] at h
    | gone => simp [Blk.info] at h
theorem merge_wk {σ m x y : St} {b : Bool} (hws : WS (look σ)) (hx : Ext σ x) (hy : Ext σ y) (h : merge0 σ b x y = some m) (z : St) (hz : z = if b = true then x else y) : Wk (look z) (look m) ∧ Ext σ m ∧ Sub (look σ) (look m) := by
  rw [merge_eq] at h
  split at h
  · rename_i hnn
    rw [Bool.and_eq_true] at hnn
    split at h
    · rename_i ws hcl
      obtain ⟨wx, ax, lx⟩ := newL_ext hx
      obtain ⟨wy, ay, ly⟩ := newL_ext hy
      rw [lx, ly] at hnn hcl h
      obtain ⟨c1, c2⟩ := mCl_at hcl
      have hm := look_apps h
      generalize hT : tmD wy.reverse (tmD wx.reverse []) = T at *
      have hzs : ∃ wz, σ.apps wz = some z ∧ noNew σ wz.reverse = true ∧ (∀ n, (∃ v, Wr.tm n v ∈ wz) ∨ Wr.ft n ∈ wz → n ∈ T) ∧ ∀ id off v, (alook σ.bk id).isSome = true → Wr.cell id off v ∈ wz → (id, off) ∈ clD σ wy.reverse (clD σ wx.reverse []) := by
        cases b with
        | true =>
          obtain rfl : z = x := by simpa using hz
          refine ⟨wx, ax, hnn.1, fun n hn => ?_, fun id off v hk hv => mem_clD hk (Or.inl (mem_clD hk (Or.inr ⟨v, by simpa using hv⟩)))⟩
          rw [← hT]
          refine mem_tmD (Or.inl (mem_tmD (Or.inr ?_)))
          simpa using hn
        | false =>
          obtain rfl : z = y := by simpa using hz
          refine ⟨wy, ay, hnn.2, fun n hn => ?_, fun id off v hk hv => mem_clD hk (Or.inr ⟨v, by simpa using hv⟩)⟩
          rw [← hT]
          refine mem_tmD (Or.inr ?_)
          simpa using hn
      obtain ⟨wz, az, nz, tz, cz⟩ := hzs
      have lz := look_apps az
      -- what the merged state says of blocks and names is what σ says
      have mk : ∀ id, look m (.k id) = look σ (.k id) := by
        intro id; rw [hm]
        refine upds_same fun u hu => ?_
        rcases List.mem_append.1 hu with hu | hu
        · obtain ⟨t, _, rfl⟩ := List.mem_map.1 hu
          unfold mTm; split
          · split <;> rfl
          · rfl
        · obtain ⟨i, o, c, d, e, rfl, _⟩ := c1 u hu; rfl
      have mn : ∀ c, look m (.n c) = look σ (.n c) := by
        intro c; rw [hm]
        refine upds_same fun u hu => ?_
        rcases List.mem_append.1 hu with hu | hu
        · obtain ⟨t, _, rfl⟩ := List.mem_map.1 hu
          unfold mTm; split
          · split <;> rfl
          · rfl
        · obtain ⟨i, o, c, d, e, rfl, _⟩ := c1 u hu; rfl
      have hS : Sub (look σ) (look m) := ⟨fun id h => by unfold kn; rw [mk]; exact h, fun c h => by unfold knn; rw [mn]; exact h⟩
      have zk : ∀ id, (alook σ.bk id).isSome = true → look z (.k id) = look σ (.k id) := by
        intro id hid; rw [lz]
        refine upds_same fun u hu => ?_
        cases u with
        | new i c =>
          simp only [Wr.fn]
          rw [if_neg]
          rintro rfl
          have := noNew_at nz (by simpa using hu)
          rw [this] at hid; cases hid
        | _ => rfl
      have kin : ∀ id b', look σ (.k id) = some (.bk b') → (alook σ.bk id).isSome = true := by
        intro id b' hb
        simp only [look] at hb
        cases ha : alook σ.bk id with
        | none => rw [ha] at hb; cases hb
        | some _ => rfl
      have cin : ∀ id o v, look σ (.c id o) = some v → (alook σ.bk id).isSome = true := by
        intro id o v hb
        simp only [look] at hb
        cases ha : alook σ.bk id with
        | none => rw [ha] at hb; cases hb
        | some _ => rfl
      refine ⟨⟨?_, ?_, ?_, ?_⟩, Ext.apps h, hS⟩
      · intro t v hv
        by_cases ht : t ∈ T
        · -- written in one of them
          have hv2 : look m (.t t) = (match mTm b x y t with | .tm _ q => some (.sv q) | _ => none) := by
            rw [hm]
            have hfn : (mTm b x y t).fn (.t t) = some (match mTm b x y t with | .tm _ q => some (.sv q) | _ => none) := by
              unfold mTm
              split
              · split <;> simp [Wr.fn]
              · simp [Wr.fn]
            refine upds_one ⟨mTm b x y t, List.mem_append_left _ (List.mem_map.2 ⟨t, ht, rfl⟩), by rw [hfn]; rfl⟩ fun u hu => ?_
            rcases List.mem_append.1 hu with hu | hu
            · obtain ⟨t', _, rfl⟩ := List.mem_map.1 hu
              by_cases e : t' = t
              · subst e; exact Or.inr hfn
              · refine Or.inl ?_
                unfold mTm
                split
                · split <;> simp [Wr.fn, Ne.symm e]
                · simp [Wr.fn, Ne.symm e]
            · obtain ⟨i, o, c, d, e, rfl, _⟩ := c1 u hu; exact Or.inl rfl
          rw [hv2] at hv
          cases hmt : mTm b x y t with
          | tm n r =>
            rw [hmt] at hv
            obtain rfl : r = v := by simpa using hv
            obtain ⟨p, q, hp, hq, hr⟩ := mTm_tm hmt
            obtain ⟨d, sc⟩ := Sv.ite_den hr
            refine ⟨?_, sc _⟩
            cases b with
            | true =>
              obtain rfl : z = x := by simpa using hz
              exact ⟨p, by simp only [look, hp]; rfl, d⟩
            | false =>
              obtain rfl : z = y := by simpa using hz
              exact ⟨q, by simp only [look, hq]; rfl, d⟩
          | _ => rw [hmt] at hv; cases hv
        · have hv2 : look m (.t t) = look σ (.t t) := by
            rw [hm]
            refine upds_same fun u hu => ?_
            rcases List.mem_append.1 hu with hu | hu
            · obtain ⟨t', ht', rfl⟩ := List.mem_map.1 hu
              have e : t ≠ t' := fun e => ht (e ▸ ht')
              unfold mTm
              split
              · split <;> simp [Wr.fn, e]
              · simp [Wr.fn, e]
            · obtain ⟨i, o, c, d, e, rfl, _⟩ := c1 u hu; rfl
          rw [hv2] at hv
          refine ⟨⟨v, ?_, fun _ => rfl⟩, (hws.tm t v hv).sub hS⟩
          rw [lz, ← hv]
          refine upds_same fun u hu => ?_
          cases u with
          | tm n q => simp only [Wr.fn]; rw [if_neg]; rintro rfl; exact ht (tz _ (Or.inl ⟨q, hu⟩))
          | ft n => simp only [Wr.fn]; rw [if_neg]; rintro rfl; exact ht (tz _ (Or.inr hu))
          | _ => rfl
      · intro id off v hv
        have hinf : ∀ q, look σ (.c id off) = some (.cv q) → ∃ t ro n cp, look m (.k id) = some (.bk (.ar t ro n cp)) ∧ off < n := fun q hq => by
          obtain ⟨_, t, ro, n, cp, h1, h2⟩ := hws.cl id off q hq
          exact ⟨t, ro, n, cp, by rw [mk]; exact h1, h2⟩
        by_cases hin : ∃ e, Wr.cell id off e ∈ ws
        · -- each that writes it writes one thing
          obtain ⟨e0, he0⟩ := hin
          obtain ⟨i0, o0, c0, d0, e0', h00, hcx, hcy, hce⟩ := c1 _ he0
          obtain ⟨rfl, rfl, rfl⟩ : id = i0 ∧ off = o0 ∧ e0 = e0' := by simpa using h00
          have hv2 : look m (.c id off) = some (.cv e0) := by
            rw [hm]
            refine upds_one ⟨.cell id off e0, List.mem_append_right _ he0, by simp [Wr.fn]⟩ fun u hu => ?_
            rcases List.mem_append.1 hu with hu | hu
            · obtain ⟨t', _, rfl⟩ := List.mem_map.1 hu
              refine Or.inl ?_
              unfold mTm; split
              · split <;> rfl
              · rfl
            · obtain ⟨i, o, c, d, e, rfl, g1, g2, g3⟩ := c1 u hu
              by_cases hio : id = i ∧ off = o
              · obtain ⟨rfl, rfl⟩ := hio
                rw [hcx] at g1; rw [hcy] at g2
                obtain rfl := Option.some.inj g1
                obtain rfl := Option.some.inj g2
                rw [hce] at g3
                obtain rfl := Option.some.inj g3
                exact Or.inr (by simp [Wr.fn])
              · refine Or.inl ?_
                simp only [Wr.fn]
                rw [if_neg hio]
          rw [hv2] at hv
          obtain rfl : e0 = v := by simpa using hv
          obtain ⟨d, sc⟩ := Cv.ite_den hce
          -- the cell was there
          have hkσ : ∃ q, look σ (.c id off) = some (.cv q) := by
            obtain ⟨t, ro, n, cp, g1, g2⟩ := look_c_k hv2
            rw [mk] at g1
            exact look_k_c g1 g2
          obtain ⟨q, hq⟩ := hkσ
          refine ⟨?_, sc _, hinf q hq⟩
          cases b with
          | true =>
            obtain rfl : z = x := by simpa using hz
            refine ⟨c0, ?_, d⟩
            simp only [look]
            unfold cellAt at hcx
            cases ha : alook z.bk id with
            | none => rw [ha] at hcx; cases hcx
            | some bb => rw [ha] at hcx; simp only [Option.bind_some] at hcx ⊢; rw [hcx]; rfl
          | false =>
            obtain rfl : z = y := by simpa using hz
            refine ⟨d0, ?_, d⟩
            simp only [look]
            unfold cellAt at hcy
            cases ha : alook z.bk id with
            | none => rw [ha] at hcy; cases hcy
            | some bb => rw [ha] at hcy; simp only [Option.bind_some] at hcy ⊢; rw [hcy]; rfl
        · have hv2 : look m (.c id off) = look σ (.c id off) := by
            rw [hm]
            refine upds_same fun u hu => ?_
            rcases List.mem_append.1 hu with hu | hu
            · obtain ⟨t', _, rfl⟩ := List.mem_map.1 hu
              unfold mTm; split
              · split <;> rfl
              · rfl
            · obtain ⟨i, o, c, d, e, rfl, _⟩ := c1 u hu
              simp only [Wr.fn]
              rw [if_neg]
              rintro ⟨rfl, rfl⟩
              exact hin ⟨e, hu⟩
          rw [hv2] at hv
          refine ⟨⟨v, ?_, fun _ => rfl⟩, (hws.cl id off v hv).1.sub hS, hinf v hv⟩
          rw [lz, ← hv]
          have hid := cin id off _ hv
          refine upds_same fun u hu => ?_
          cases u with
          | cell i o q =>
            simp only [Wr.fn]
            rw [if_neg]
            rintro ⟨rfl, rfl⟩
            obtain ⟨e, he⟩ := c2 _ (cz _ _ q hid hu)
            exact hin ⟨e, he⟩
          | new i c =>
            simp only [Wr.fn]
            rw [if_neg]
            rintro rfl
            have := noNew_at nz (by simpa using hu)
            rw [this] at hid; cases hid
          | _ => rfl
      · intro id b' hb hl
        rw [mk] at hb
        rw [zk id (kin id b' hb)]
        exact hb
      · intro id b' c es hb hc
        rw [mk] at hb
        exact hS.2 c (hws.cp id b' c es hb hc)
    · cases h
  · cases h
end
end Sx
end Go.Proofs.YtpdhkgfdmpofiaaGreatDoor
