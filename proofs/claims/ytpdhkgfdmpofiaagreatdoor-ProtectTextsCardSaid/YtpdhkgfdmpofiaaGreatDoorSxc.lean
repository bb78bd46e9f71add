/-
  The first steps on memory: a slot, a draw, a name, a new block, a store, a block forgotten.
-/
import Derived.Test.YtpdhkgfdmpofiaaGreatDoorSxb
set_option linter.unusedSimpArgs false
set_option linter.unusedVariables false
namespace Go.Proofs.YtpdhkgfdmpofiaaGreatDoor
namespace Sx
open Go.RowKit

section
variable {C : Ctx} {e : Env} {s s' : Sto} {w : World}

theorem Sub.of_le (h : ∀ l, (s l).isSome = true → (s' l).isSome = true) : Sub s s' := ⟨fun id hi => h (.k id) hi, fun c hc => h (.n c) hc⟩
/-- What stands in slots has no say in memory. -/
theorem Hp.congr (h : Hp C e s w) (hs : ∀ l, (∀ t, l ≠ .t t) → s' l = s l) : Hp C e s' w := by
  have hk : ∀ id, s' (.k id) = s (.k id) := fun id => hs _ (by simp)
  have hc : ∀ id o, s' (.c id o) = s (.c id o) := fun id o => hs _ (by simp)
  have hn : ∀ c, s' (.n c) = s (.n c) := fun c => hs _ (by simp)
  have hS : Sub s s' := ⟨fun id h => by unfold kn; rw [hk]; exact h, fun c h => by unfold knn; rw [hn]; exact h⟩
  refine ⟨h.new, ?_, ?_, ?_, ?_, ?_, ?_, ?_, ?_, h.fr⟩
  · intro id off v hv
    rw [hc] at hv
    obtain ⟨h1, ⟨t, ro, n, cp, h2, h3⟩, h4⟩ := h.cl id off v hv
    exact ⟨h1.sub hS, ⟨t, ro, n, cp, (hk id).trans h2, h3⟩, h4⟩
  · intro id t n cp hi; rw [hk] at hi; exact h.ar id t n cp hi
  · intro id t ro n f cp hi off ho
    rw [hk] at hi
    exact h.oq id t ro n f cp hi off ho
  · intro id b c es hi hcp
    rw [hk] at hi
    obtain ⟨h1, h2⟩ := h.cp id b c es hi hcp
    exact ⟨hS.2 c h1, h2⟩
  · intro id id' b b' h1 h2; rw [hk] at h1 h2; exact h.inj id id' b b' h1 h2
  · intro id b h1; rw [hk] at h1; exact h.lt id b h1
  · intro id b h1; rw [hk] at h1; exact h.mu id b h1
  · exact h.pin.mono (Agree.refl _ _) hS

theorem upd_t {n : Nat} {v : Sv} (m : Nat) : (Wr.tm n v).upd s (.t m) = if m = n then some (.sv v) else s (.t m) := by
  simp only [Wr.upd, Wr.fn]; split <;> rfl
theorem upd_t_other {n : Nat} {v : Sv} (l : Loc) (h : ∀ t, l ≠ .t t) : (Wr.tm n v).upd s l = s l := by
  cases l with
  | t m => exact absurd rfl (h m)
  | _ => rfl
theorem Sub.tm {n : Nat} {v : Sv} : Sub s ((Wr.tm n v).upd s) := ⟨fun _ h => h, fun _ h => h⟩
theorem Rel.put {N : Nat} {a : Act} (h : Rel C N e s a w) {n : Nat} (hn : n < N) {v : Sv} (hv : v.sc s) : Rel C N e ((Wr.tm n v).upd s) (a.put (some n) (v.den e)) w := by
  refine ⟨by simpa [Act.put] using h.sz, h.df, ?_, h.hp.congr fun l hl => upd_t_other l hl⟩
  intro t v' ht
  rw [upd_t] at ht
  have hsz := h.sz
  by_cases c : t = n
  · subst c
    rw [if_pos rfl] at ht
    obtain rfl : v = v' := by simpa using ht
    refine ⟨hn, ?_, hv.sub Sub.tm⟩
    simp only [Act.put]
    rw [Array.getD_eq_getD_getElem?, Array.getElem?_setIfInBounds]
    simp [hsz, hn]
  · rw [if_neg c] at ht
    obtain ⟨h1, h2, h3⟩ := h.tm t v' ht
    refine ⟨h1, ?_, h3.sub Sub.tm⟩
    simp only [Act.put]
    rw [Array.getD_eq_getD_getElem?, Array.getElem?_setIfInBounds, if_neg (fun h => c h.symm), ← Array.getD_eq_getD_getElem?]
    exact h2
theorem Rel.put_none {N : Nat} {a : Act} {v : Value} (h : Rel C N e s a w) : Rel C N e s (a.put none v) w := h

theorem Fr.drew {M : Nat → Prop} {w0 w : World} (h : Fr M w0 w) : Fr M w0 w.drew := ⟨h.os, h.tape, h.output, h.size, h.block, h.gl⟩
theorem Hp.drew (h : Hp C e s w) : Hp C e s w.drew := ⟨h.new, h.cl, h.ar, h.oq, h.cp, h.inj, h.lt, h.mu, h.pin, h.fr.drew⟩
theorem Rel.drew {N : Nat} {a : Act} (h : Rel C N e s a w) : Rel C N e s a w.drew := ⟨h.sz, h.df, h.tm, h.hp.drew⟩

/-- The names that a frame's slots hold, under another naming. -/
theorem Rel.agree {N : Nat} {a : Act} {e' : Env} {w' : World} (h : Rel C N e s a w) (hs : ∀ t, s' (.t t) = s (.t t)) (hS : Sub s s') (hA : Agree s e e') (hp : Hp C e' s' w') : Rel C N e' s' a w' := by
  refine ⟨h.sz, h.df, ?_, hp⟩
  intro t v ht
  rw [hs] at ht
  obtain ⟨h1, h2, h3⟩ := h.tm t v ht
  exact ⟨h1, h2.trans (Sv.den_agree hA h3).symm, h3.sub hS⟩

/-! A block forgotten. -/
theorem gone_k {id : Nat} (i : Nat) : (Wr.new id .gone).upd s (.k i) = if i = id then some (.bk .gone) else s (.k i) := by
  simp only [Wr.upd, Wr.fn]; split <;> rfl
theorem gone_c {id : Nat} (i o : Nat) : (Wr.new id .gone).upd s (.c i o) = if i = id then none else s (.c i o) := by
  simp only [Wr.upd, Wr.fn]; split <;> rfl
theorem Sub.new {id : Nat} {b : Blk} : Sub s ((Wr.new id b).upd s) := by
  refine ⟨fun i h => ?_, fun c h => h⟩
  unfold kn
  simp only [Wr.upd, Wr.fn]
  split
  · rfl
  · exact h
theorem Hp.gone (h : Hp C e s w) (id : Nat) : Hp C e ((Wr.new id .gone).upd s) w := by
  have hS : Sub s ((Wr.new id .gone).upd s) := Sub.new
  have live : ∀ i b, (Wr.new id .gone).upd s (.k i) = some (.bk b) → b.live = true → s (.k i) = some (.bk b) ∧ i ≠ id := by
    intro i b hb hl
    rw [gone_k] at hb
    by_cases c : i = id
    · rw [if_pos c] at hb
      obtain rfl : BI.gone = b := by simpa using hb
      cases hl
    · rw [if_neg c] at hb; exact ⟨hb, c⟩
  have rwl : ∀ b : BI, b.rw = true → b.live = true := fun b hb => by cases b <;> first | rfl | cases hb
  refine ⟨h.new, ?_, ?_, ?_, ?_, ?_, ?_, ?_, ?_, h.fr⟩
  · intro i off v hv
    rw [gone_c] at hv
    by_cases c : i = id
    · rw [if_pos c] at hv; cases hv
    · rw [if_neg c] at hv
      obtain ⟨h1, ⟨t, ro, n, cp, h2, h3⟩, h4⟩ := h.cl i off v hv
      exact ⟨h1.sub hS, ⟨t, ro, n, cp, by rw [gone_k, if_neg c]; exact h2, h3⟩, h4⟩
  · intro i t n cp hi; exact h.ar i t n cp (live i _ hi rfl).1
  · intro i t ro n f cp hi off ho
    exact h.oq i t ro n f cp (live i _ hi rfl).1 off ho
  · intro i b c es hi hcp
    have hl : b.live = true := by cases b <;> first | rfl | cases hcp
    obtain ⟨h1, h2⟩ := h.cp i b c es (live i _ hi hl).1 hcp
    exact ⟨hS.2 c h1, h2⟩
  · intro i i' b b' h1 h2 h3 h4; exact h.inj i i' b b' (live i _ h1 (rwl b h3)).1 (live i' _ h2 h4).1 h3 h4
  · intro i b h1 h2; exact h.lt i b (live i _ h1 h2).1 h2
  · intro i b h1 h2; exact h.mu i b (live i _ h1 (rwl b h2)).1 h2
  · exact h.pin.mono (Agree.refl _ _) hS

/-! A name for a capacity. -/
def Env.setNm (e : Env) (c m : Nat) : Env := { e with nm := fun d => if d = c then m else e.nm d }
theorem Sub.nm {c : Nat} : Sub s ((Wr.nm c).upd s) := by
  refine ⟨fun i h => h, fun d h => ?_⟩
  unfold knn
  simp only [Wr.upd, Wr.fn]
  split
  · rfl
  · exact h
theorem Hp.name (h : Hp C e s w) {c : Nat} (hc : s (.n c) = none) (m : Nat) : Hp C (e.setNm c m) ((Wr.nm c).upd s) w ∧ Agree s e (e.setNm c m) := by
  have hA : Agree s e (e.setNm c m) := by
    refine ⟨fun _ _ => rfl, fun d hd => ?_⟩
    simp only [Env.setNm]
    rw [if_neg]
    intro ec; subst ec; unfold knn at hd; rw [hc] at hd; cases hd
  have hS : Sub s ((Wr.nm c).upd s) := Sub.nm
  have hk : ∀ i, (Wr.nm c).upd s (.k i) = s (.k i) := fun _ => rfl
  have hcc : ∀ i o, (Wr.nm c).upd s (.c i o) = s (.c i o) := fun _ _ => rfl
  refine ⟨⟨h.new, ?_, h.ar, ?_, ?_, h.inj, h.lt, h.mu, ?_, h.fr⟩, hA⟩
  · intro i off v hv
    rw [hcc] at hv
    obtain ⟨h1, h2, h3⟩ := h.cl i off v hv
    exact ⟨h1.sub hS, h2, h3.trans (by rw [Cv.den_agree hA h1])⟩
  · intro i t ro n f cp hi off ho
    exact h.oq i t ro n f cp hi off ho
  · intro i b d es hi hcp
    obtain ⟨h1, h2, cs, h3, h4, h5⟩ := h.cp i b d es hi hcp
    refine ⟨hS.2 d h1, h2, cs, h3, ?_, h5⟩
    rw [hA.2 d h1]; exact h4
  · exact h.pin.mono hA hS

/-! A new block. -/
def Env.setPl (e : Env) (id : Nat) (p : Nat × Nat) : Env := { e with pl := fun i => if i = id then p else e.pl i }
theorem new_k {id : Nat} {b : Blk} (i : Nat) : (Wr.new id b).upd s (.k i) = if i = id then some (.bk b.info) else s (.k i) := by
  simp only [Wr.upd, Wr.fn]; split <;> rfl
theorem new_c {id : Nat} {b : Blk} (i o : Nat) : (Wr.new id b).upd s (.c i o) = if i = id then (b.cell o).map .cv else s (.c i o) := by
  simp only [Wr.upd, Wr.fn]; split <;> rfl
/-- What a new block's cells must hold. -/
def Fits (e : Env) (s : Sto) (xs : Array Value) : Blk → Prop
  | .ar _ _ cs cp => scs s cs ∧ (∀ (j : Nat) (c : Cv), cs[j]? = some c → xs[j]? = some (c.den e)) ∧ ∀ c es, cp = some (c, es) → knn s c ∧ xs.size = e.nm c * es ∧ cs.length ≤ xs.size
  | .oq _ _ n f cp => (∀ j, j < n → xs[j]? = some (f j)) ∧ ∀ c es, cp = some (c, es) → knn s c ∧ xs.size = e.nm c * es ∧ n ≤ xs.size
  | .gone => False
theorem Hp.alloc (h : Hp C e s w) {id : Nat} (hid : s (.k id) = none) {b : Blk} {xs : Array Value} (hf : Fits e s xs b) :
    Hp C (e.setPl id (w.heap.size, 0)) ((Wr.new id b).upd s) (w.alloc (.cells xs b.info.t)) ∧ Agree s e (e.setPl id (w.heap.size, 0)) := by
  have hnk : ∀ i, kn s i → i ≠ id := fun i hi ec => by subst ec; unfold kn at hi; rw [hid] at hi; cases hi
  have hA : Agree s e (e.setPl id (w.heap.size, 0)) := ⟨fun i hi => by simp only [Env.setPl]; rw [if_neg (hnk i hi)], fun _ _ => rfl⟩
  have hS : Sub s ((Wr.new id b).upd s) := Sub.new
  have had : ∀ o, (e.setPl id (w.heap.size, 0)).ad id o = ⟨w.heap.size, o, none⟩ := fun o => by simp [Env.ad, Env.setPl]
  have hpl : (e.setPl id (w.heap.size, 0)).pl id = (w.heap.size, 0) := by simp [Env.setPl]
  have kns : ∀ i b', s (.k i) = some (.bk b') → kn s i := fun i b' hi => by unfold kn; rw [hi]; rfl
  have old : ∀ i o (hi : kn s i) b', s (.k i) = some (.bk b') → b'.live = true → (w.alloc (.cells xs b.info.t)).cell? ((e.setPl id (w.heap.size, 0)).ad i o) = w.cell? (e.ad i o) ∧ (w.alloc (.cells xs b.info.t)).frozen? ((e.setPl id (w.heap.size, 0)).ad i o) = w.frozen? (e.ad i o) := by
    intro i o hi b' hb hl
    rw [hA.ad hi]
    have := h.lt i b' hb hl
    exact ⟨World.cell?_alloc_lt w _ _ this, World.frozen?_alloc_old w _ _ (show (e.pl i).1 ≠ _ by omega)⟩
  have rwl : ∀ b : BI, b.rw = true → b.live = true := fun b hb => by cases b <;> first | rfl | cases hb
  refine ⟨⟨h.new, ?_, ?_, ?_, ?_, ?_, ?_, ?_, ?_, ?_⟩, hA⟩
  · intro i off v hv
    rw [new_c] at hv
    by_cases c : i = id
    · subst c
      rw [if_pos rfl] at hv
      cases b with
      | ar t ro cs cp =>
        obtain ⟨f1, f2, f3⟩ := hf
        simp only [Blk.cell, Option.map_eq_some_iff, LV.cv.injEq] at hv
        obtain ⟨x, hx, rfl⟩ := hv
        have hx1 := f1 x (List.mem_of_getElem? hx)
        refine ⟨hx1.sub hS, ⟨t, ro, cs.length, cp, by rw [new_k, if_pos rfl]; rfl, (List.getElem?_eq_some_iff.1 hx).1⟩, ?_⟩
        rw [had, World.cell?_alloc_new, f2 off x hx, Cv.den_agree hA hx1]
      | oq t ro n f cp => cases hv
      | gone => cases hv
    · rw [if_neg c] at hv
      obtain ⟨h1, ⟨t, ro, n, cp, h2, h3⟩, h4⟩ := h.cl i off v hv
      refine ⟨h1.sub hS, ⟨t, ro, n, cp, by rw [new_k, if_neg c]; exact h2, h3⟩, ?_⟩
      rw [(old i off (kns i _ h2) _ h2 rfl).1, h4, Cv.den_agree hA h1]
  · intro i t n cp hi off ho
    rw [new_k] at hi
    by_cases c : i = id
    · subst c
      rw [if_pos rfl] at hi
      cases b with
      | ar t' ro cs cp' =>
        obtain ⟨f1, f2, f3⟩ := hf
        simp only [Blk.info, Option.some.injEq, LV.bk.injEq, BI.ar.injEq] at hi
        obtain ⟨rfl, rfl, rfl, rfl⟩ := hi
        refine ⟨by rw [had]; exact World.frozen?_alloc_new .., ?_⟩
        rw [had, World.cell?_alloc_new, f2 off _ (List.getElem?_eq_getElem ho)]
        rfl
      | oq t' ro n' f cp' => simp [Blk.info] at hi
      | gone => simp [Blk.info] at hi
    · rw [if_neg c] at hi
      obtain ⟨h1, h2⟩ := h.ar i t n cp hi off ho
      obtain ⟨o1, o2⟩ := old i off (kns i _ hi) _ hi rfl
      exact ⟨o2.trans h1, by rw [o1]; exact h2⟩
  · intro i t ro n f cp hi off ho
    rw [new_k] at hi
    by_cases c : i = id
    · subst c
      rw [if_pos rfl] at hi
      cases b with
      | oq t' ro' n' f' cp' =>
        simp only [Blk.info, Option.some.injEq, LV.bk.injEq, BI.oq.injEq] at hi
        obtain ⟨rfl, rfl, rfl, rfl, rfl⟩ := hi
        refine ⟨?_, fun _ => by rw [had]; exact World.frozen?_alloc_new ..⟩
        rw [had, World.cell?_alloc_new, hf.1 off ho]
      | ar t' ro' cs cp' => simp [Blk.info] at hi
      | gone => simp [Blk.info] at hi
    · rw [if_neg c] at hi
      obtain ⟨h2, h3⟩ := h.oq i t ro n f cp hi off ho
      obtain ⟨o1, o2⟩ := old i off (kns i _ hi) _ hi rfl
      exact ⟨by rw [o1, h2], fun hr => o2.trans (h3 hr)⟩
  · intro i b' c es hi hcp
    rw [new_k] at hi
    by_cases ci : i = id
    · subst ci
      rw [if_pos rfl] at hi
      obtain rfl : b.info = b' := by simpa using hi
      refine ⟨?_, by rw [hpl], xs, by rw [hpl]; show (w.heap.push _)[w.heap.size]? = _; simp, ?_⟩
      · cases b with
        | ar t' ro' cs cp' => exact hS.2 c (hf.2.2 c es hcp).1
        | oq t' ro' n' f' cp' => exact hS.2 c (hf.2 c es hcp).1
        | gone => cases hcp
      · cases b with
        | ar t' ro' cs cp' => exact (hf.2.2 c es hcp).2
        | oq t' ro' n' f' cp' => exact (hf.2 c es hcp).2
        | gone => cases hcp
    · rw [if_neg ci] at hi
      obtain ⟨h1, h2, cs, h3, h4⟩ := h.cp i b' c es hi hcp
      rw [hA.1 i (kns i _ hi)]
      refine ⟨hS.2 c h1, h2, cs, ?_, h4⟩
      rw [← h3]
      have hl : b'.live = true := by cases b' <;> first | rfl | cases hcp
      exact Below.heap_alloc _ _ _ (h.lt i b' hi hl)
  · intro i i' b1 b2 h1 h2 h3 h4 hne
    rw [new_k] at h1 h2
    by_cases c : i = id
    · subst c
      rw [if_neg (Ne.symm hne)] at h2
      rw [hpl, hA.1 i' (kns i' _ h2)]
      have := h.lt i' b2 h2 h4
      simp only []
      omega
    · rw [if_neg c] at h1
      rw [hA.1 i (kns i _ h1)]
      by_cases c' : i' = id
      · subst c'
        rw [hpl]
        have := h.lt i b1 h1 (rwl b1 h3)
        simp only []
        omega
      · rw [if_neg c'] at h2
        rw [hA.1 i' (kns i' _ h2)]
        exact h.inj i i' b1 b2 h1 h2 h3 h4 hne
  · intro i b' hi hl
    rw [new_k] at hi
    by_cases c : i = id
    · subst c; rw [hpl]; simp
    · rw [if_neg c] at hi
      rw [hA.1 i (kns i _ hi)]
      have := h.lt i b' hi hl
      simp; omega
  · intro i b' hi hr
    rw [new_k] at hi
    by_cases c : i = id
    · subst c; rw [hpl]; exact h.new _ h.fr.size
    · rw [if_neg c] at hi
      rw [hA.1 i (kns i _ hi)]
      exact h.mu i b' hi hr
  · exact h.pin.mono hA hS
  · refine ⟨h.fr.os, h.fr.tape, h.fr.output, by have := h.fr.size; simp; omega, fun k hk hM => ?_, h.fr.gl⟩
    rw [← h.fr.block k hk hM]
    exact Below.heap_alloc _ _ _ (by have := h.fr.size; omega)

/-! A store. -/
theorem cell_k {id off : Nat} {v : Cv} (i : Nat) : (Wr.cell id off v).upd s (.k i) = s (.k i) := rfl
theorem cell_c {id off : Nat} {v : Cv} (i o : Nat) : (Wr.cell id off v).upd s (.c i o) = if i = id ∧ o = off then some (.cv v) else s (.c i o) := by
  simp only [Wr.upd, Wr.fn]; split <;> rfl
theorem Sub.cell {id off : Nat} {v : Cv} : Sub s ((Wr.cell id off v).upd s) := ⟨fun _ h => h, fun _ h => h⟩
theorem ad_ne {e : Env} {i o id off : Nat} (h : i ≠ id → (e.pl id).1 ≠ (e.pl i).1) (hne : ¬ (i = id ∧ o = off)) : e.ad id off ≠ e.ad i o := by
  intro ha
  simp only [Env.ad, Addr.mk.injEq, and_true] at ha
  by_cases c : i = id
  · subst c; exact hne ⟨rfl, by omega⟩
  · exact h c ha.1
theorem Fr.setCell {M : Nat → Prop} {w0 w : World} (h : Fr M w0 w) {a : Addr} (ha : M a.block) (v : Value) : Fr M w0 (w.setCell a v) :=
  ⟨h.os, h.tape, h.output, by simpa using h.size, fun k hk hM => (Below.heap_setCell _ _ _ _ (fun ec => hM (by rw [ec]; exact ha))).trans (h.block k hk hM), h.gl⟩
theorem Hp.store (h : Hp C e s w) {id off n : Nat} {t : TypeId} {cp : Option (Nat × Nat)} (hk : s (.k id) = some (.bk (.ar t false n cp))) (ho : off < n) {v : Cv} (hv : v.sc s) :
    Hp C e ((Wr.cell id off v).upd s) (w.setCell (e.ad id off) (v.den e)) := by
  have hS : Sub s ((Wr.cell id off v).upd s) := Sub.cell
  obtain ⟨hfr, hsm⟩ := h.ar id t n cp hk off ho
  have hblk : ∀ i b, s (.k i) = some (.bk b) → b.live = true → i ≠ id → (e.pl id).1 ≠ (e.pl i).1 := fun i b hi hl hne => h.inj id i _ b hk hi rfl hl (Ne.symm hne)
  refine ⟨h.new, ?_, ?_, ?_, ?_, h.inj, ?_, h.mu, ?_, h.fr.setCell (h.mu id _ hk rfl) _⟩
  · intro i o v' hv'
    rw [cell_c] at hv'
    by_cases c : i = id ∧ o = off
    · rw [if_pos c] at hv'
      obtain ⟨rfl, rfl⟩ := c
      obtain rfl : v = v' := by simpa using hv'
      refine ⟨hv.sub hS, ⟨t, false, n, cp, hk, ho⟩, ?_⟩
      obtain ⟨u, hu⟩ := Option.isSome_iff_exists.1 hsm
      exact World.cell?_setCell_same _ _ _ hu
    · rw [if_neg c] at hv'
      obtain ⟨h1, ⟨t', ro, n', cp', h2, h3⟩, h4⟩ := h.cl i o v' hv'
      refine ⟨h1.sub hS, ⟨t', ro, n', cp', h2, h3⟩, ?_⟩
      rw [World.cell?_setCell_other _ _ _ _ (ad_ne (hblk i _ h2 rfl) c)]
      exact h4
  · intro i t' n' cp' hi o ho'
    obtain ⟨h1, h2⟩ := h.ar i t' n' cp' hi o ho'
    refine ⟨by simpa using h1, ?_⟩
    by_cases c : i = id ∧ o = off
    · obtain ⟨rfl, rfl⟩ := c
      obtain ⟨u, hu⟩ := Option.isSome_iff_exists.1 hsm
      rw [World.cell?_setCell_same _ _ _ hu]; rfl
    · rw [World.cell?_setCell_other _ _ _ _ (ad_ne (hblk i _ hi rfl) c)]; exact h2
  · intro i t' ro n' f cp' hi o ho'
    have c : i ≠ id := fun ec => by subst ec; rw [cell_k, hk] at hi; simp at hi
    obtain ⟨h2, h3⟩ := h.oq i t' ro n' f cp' hi o ho'
    refine ⟨?_, fun hr => by simpa using h3 hr⟩
    rw [World.cell?_setCell_other _ _ _ _ (ad_ne (hblk i _ hi rfl) (fun x => c x.1))]
    exact h2
  · intro i b c es hi hcp
    obtain ⟨h1, h2, cs, h3, h4, h5⟩ := h.cp i b c es hi hcp
    by_cases ci : i = id
    · subst ci
      refine ⟨hS.2 c h1, h2, cs.setIfInBounds ((e.pl i).2 + off) (v.den e), ?_, by simpa using h4, by simpa using h5⟩
      simp only [World.setCell, Env.ad, Array.getElem?_modify, if_true, h3]
      rfl
    · refine ⟨hS.2 c h1, h2, cs, ?_, h4, h5⟩
      have hl : b.live = true := by cases b <;> first | rfl | cases hcp
      rw [Below.heap_setCell _ _ _ _ (show (e.pl i).1 ≠ (e.ad id off).block from fun x => hblk i b hi hl ci x.symm)]
      exact h3
  · intro i b hi hl; have := h.lt i b hi hl; simpa using this
  · exact h.pin.mono (Agree.refl _ _) hS

/-- A store into a block whose cells are told by a function. -/
theorem Hp.storeQ (h : Hp C e s w) {id off n : Nat} {t : TypeId} {f : Nat → Value} {cp : Option (Nat × Nat)} (hk : s (.k id) = some (.bk (.oq t false n f cp))) (ho : off < n) {v : Value} :
    Hp C e ((Wr.new id (.oq t false n (fun j => if j = off then v else f j) cp)).upd s) (w.setCell (e.ad id off) v) := by
  have hS : Sub s ((Wr.new id (.oq t false n (fun j => if j = off then v else f j) cp)).upd s) := Sub.new
  obtain ⟨hf2, hf3⟩ := h.oq id t false n f cp hk off ho
  have hblk : ∀ i b, s (.k i) = some (.bk b) → b.live = true → i ≠ id → (e.pl id).1 ≠ (e.pl i).1 := fun i b hi hl hne => h.inj id i _ b hk hi rfl hl (Ne.symm hne)
  have hki : ∀ i b, (Wr.new id (.oq t false n (fun j => if j = off then v else f j) cp)).upd s (.k i) = some (.bk b) → ∃ b', s (.k i) = some (.bk b') ∧ b'.live = b.live ∧ b'.rw = b.rw ∧ b'.cp = b.cp ∧ b'.t = b.t ∧ b'.n = b.n := by
    intro i b hi
    rw [new_k] at hi
    by_cases c : i = id
    · subst c
      rw [if_pos rfl] at hi
      obtain rfl : _ = b := by simpa using hi
      exact ⟨_, hk, rfl, rfl, rfl, rfl, rfl⟩
    · rw [if_neg c] at hi; exact ⟨b, hi, rfl, rfl, rfl, rfl, rfl⟩
  refine ⟨h.new, ?_, ?_, ?_, ?_, ?_, ?_, ?_, ?_, h.fr.setCell (h.mu id _ hk rfl) _⟩
  · intro i o v' hv'
    rw [new_c] at hv'
    by_cases c : i = id
    · rw [if_pos c] at hv'; cases hv'
    · rw [if_neg c] at hv'
      obtain ⟨h1, ⟨t', ro, n', cp', h2, h3⟩, h4⟩ := h.cl i o v' hv'
      refine ⟨h1.sub hS, ⟨t', ro, n', cp', by rw [new_k, if_neg c]; exact h2, h3⟩, ?_⟩
      rw [World.cell?_setCell_other _ _ _ _ (ad_ne (hblk i _ h2 rfl) (fun x => c x.1))]
      exact h4
  · intro i t' n' cp' hi o ho'
    have c : i ≠ id := fun ec => by subst ec; rw [new_k, if_pos rfl] at hi; simp [Blk.info] at hi
    rw [new_k, if_neg c] at hi
    obtain ⟨h1, h2⟩ := h.ar i t' n' cp' hi o ho'
    refine ⟨by simpa using h1, ?_⟩
    rw [World.cell?_setCell_other _ _ _ _ (ad_ne (hblk i _ hi rfl) (fun x => c x.1))]; exact h2
  · intro i t' ro n' f' cp' hi o ho'
    rw [new_k] at hi
    by_cases c : i = id
    · subst c
      rw [if_pos rfl] at hi
      simp only [Blk.info, Option.some.injEq, LV.bk.injEq, BI.oq.injEq] at hi
      obtain ⟨rfl, rfl, rfl, rfl, rfl⟩ := hi
      by_cases co : o = off
      · subst co
        simp only [if_true]
        exact ⟨World.cell?_setCell_same _ _ _ hf2, fun _ => by simpa using hf3 rfl⟩
      · simp only [if_neg co]
        obtain ⟨h2, h3⟩ := h.oq i t _ _ f cp hk o ho'
        refine ⟨?_, fun _ => by simpa using h3 rfl⟩
        rw [World.cell?_setCell_other _ _ _ _ (ad_ne (fun x => absurd rfl x) (fun x => co x.2))]
        exact h2
    · rw [if_neg c] at hi
      obtain ⟨h2, h3⟩ := h.oq i t' ro n' f' cp' hi o ho'
      refine ⟨?_, fun hr => by simpa using h3 hr⟩
      rw [World.cell?_setCell_other _ _ _ _ (ad_ne (hblk i _ hi rfl) (fun x => c x.1))]
      exact h2
  · intro i b c es hi hcp
    obtain ⟨b', hb, e1, e2, e3, e4, e5⟩ := hki i b hi
    obtain ⟨h1, h2, cs, h3, h4, h5⟩ := h.cp i b' c es hb (e3.trans hcp)
    rw [e4] at h3
    rw [e5] at h5
    by_cases ci : i = id
    · subst ci
      refine ⟨hS.2 c h1, h2, cs.setIfInBounds ((e.pl i).2 + off) v, ?_, by simpa using h4, by simpa using h5⟩
      simp only [World.setCell, Env.ad, Array.getElem?_modify, if_true, h3]
      rfl
    · refine ⟨hS.2 c h1, h2, cs, ?_, h4, h5⟩
      have hl : b'.live = true := by cases b' <;> first | rfl | (rw [hcp] at e3; cases e3)
      rw [Below.heap_setCell _ _ _ _ (show (e.pl i).1 ≠ (e.ad id off).block from fun x => hblk i b' hb hl ci x.symm)]
      exact h3
  · intro i i' b b' h1 h2 h3 h4
    obtain ⟨d, hd, e1, e2, _⟩ := hki i b h1
    obtain ⟨d', hd', e1', e2', _⟩ := hki i' b' h2
    exact h.inj i i' d d' hd hd' (e2.trans h3) (e1'.trans h4)
  · intro i b hi hl
    obtain ⟨d, hd, e1, e2, _⟩ := hki i b hi
    have := h.lt i d hd (e1.trans hl); simpa using this
  · intro i b hi hr
    obtain ⟨d, hd, e1, e2, _⟩ := hki i b hi
    exact h.mu i d hd (e2.trans hr)
  · exact h.pin.mono (Agree.refl _ _) hS
end
end Sx
end Go.Proofs.YtpdhkgfdmpofiaaGreatDoor
