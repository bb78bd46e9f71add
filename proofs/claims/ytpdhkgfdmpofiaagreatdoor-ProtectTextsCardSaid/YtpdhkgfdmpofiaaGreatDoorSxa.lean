/-
  The order in which a region carries out its operations does not matter: if each operation is told by what it looks at and what it writes, and whatever meets at one place is in a fixed order, then every order leaves what the order of the text leaves.
-/
import Derived.WalkKit
set_option linter.unusedSimpArgs false
set_option linter.unusedVariables false
namespace Go.Proofs.YtpdhkgfdmpofiaaGreatDoor
namespace Sx
open Go.RowKit

section
variable {P : Program} {ops : Array Oper} {Q : Exit → Act → World → Prop}

/-- Every operation waits for earlier ones alone. -/
def early (ops : Array Oper) : Bool := (List.range ops.size).all fun i => ((ops[i]?).map (·.after.all fun e => !Region.binds .any e || decide (e.on < i))).getD true

theorem all_listed {l : Array Bool} (hsz : l.size = ops.size) (he : early ops = true) (h : Region.ready .any ops l = []) : ∀ i, i < ops.size → l.getD i true = true := by
  intro i
  induction i using Nat.strongRecOn with
  | _ i ih =>
    intro hi
    cases hl : l.getD i true with
    | true => rfl
    | false =>
      exfalso
      have hr : i ∈ Region.ready .any ops l := by
        unfold Region.ready
        rw [List.mem_filter]
        refine ⟨List.mem_range.2 hi, ?_⟩
        have ho : ops[i]? = some ops[i] := Array.getElem?_eq_getElem hi
        rw [hl, ho]
        simp only [Bool.not_false, Bool.true_and, Option.map_some, Option.getD_some]
        rw [Array.all_eq_true']
        intro e hem
        have h1 := List.all_eq_true.1 he i (List.mem_range.2 hi)
        rw [ho] at h1
        simp only [Option.map_some, Option.getD_some] at h1
        rw [Array.all_eq_true'] at h1
        have h2 := h1 e hem
        cases hb : Region.binds .any e with
        | false => simp
        | true =>
          rw [hb] at h2
          simp at h2
          have h3 := ih e.on h2 (by omega)
          have : l.getD e.on false = true := by
            rw [Array.getD_eq_getD_getElem?] at h3 ⊢
            cases hx : l[e.on]? with
            | some x => rw [hx] at h3; simpa using h3
            | none =>
              exfalso
              rw [Array.getElem?_eq_none_iff] at hx
              omega
          simp [this]
      rw [h] at hr
      exact absurd hr (by simp)

/-- How many are still to come. -/
def left (l : Array Bool) : Nat := l.toList.count false
theorem left_set {l : Array Bool} {i : Nat} (hi : i < l.size) (h : l.getD i true = false) : left (l.setIfInBounds i true) + 1 = left l := by
  obtain ⟨l⟩ := l
  simp only [left, List.setIfInBounds_toArray]
  have hi' : i < l.length := by simpa using hi
  have h' : l[i] = false := by
    rw [Array.getD_eq_getD_getElem?] at h
    simpa [hi'] using h
  rw [List.count_set hi']
  have hc : 0 < List.count false l := List.count_pos_iff.2 (h' ▸ List.getElem_mem hi')
  simp [h']
  omega
theorem ready_iff {md : Region.Mode} {l : Array Bool} {i : Nat} (h : i ∈ Region.ready md ops l) :
    i < ops.size ∧ l.getD i true = false ∧ ∀ o, ops[i]? = some o → (o.after.all fun e => !Region.binds md e || l.getD e.on false) = true := by
  unfold Region.ready at h
  rw [List.mem_filter] at h
  obtain ⟨h1, h2⟩ := h
  rw [Bool.and_eq_true] at h2
  refine ⟨List.mem_range.1 h1, by simpa using h2.1, fun o ho => ?_⟩
  have h3 := h2.2
  rw [ho] at h3
  simpa using h3

theorem any_inv (he : early ops = true) (I : Array Bool → Act → World → Prop) (hsz : ∀ l a w, I l a w → l.size = ops.size)
    (step : ∀ i o, ops[i]? = some o → ∀ l a w, I l a w → l.getD i true = false → (o.after.all fun e => !Region.binds .any e || l.getD e.on false) = true → wpOp P ops Q i (I (l.setIfInBounds i true)) a w)
    (done : ∀ l a w, I l a w → (∀ i, i < ops.size → l.getD i true = true) → Q .normal a w) :
    ∀ fuel l a w, I l a w → left l ≤ fuel → wpAny P .any ops Q fuel l a w := by
  intro fuel
  induction fuel with
  | zero =>
    intro l a w hI hf
    have hr : Region.ready .any ops l = [] := by
      rw [List.eq_nil_iff_forall_not_mem]
      intro i hi
      obtain ⟨h1, h2, _⟩ := ready_iff hi
      have := left_set (by rw [hsz l a w hI]; exact h1) h2
      omega
    exact ⟨hr, done l a w hI (all_listed (hsz l a w hI) he hr)⟩
  | succ n ih =>
    intro l a w hI hf
    refine ⟨fun hr => done l a w hI (all_listed (hsz l a w hI) he hr), fun i hi => ?_⟩
    obtain ⟨h1, h2, h3⟩ := ready_iff hi
    have ho : ops[i]? = some ops[i] := Array.getElem?_eq_getElem h1
    have hl := left_set (by rw [hsz l a w hI]; exact h1) h2
    exact wpOp_mono (fun a' w' h' => ih _ a' w' h' (by omega)) (step i _ ho l a w hI h2 (h3 _ ho))

theorem left_new (n : Nat) : left (Array.replicate n false) = n := by simp [left]

theorem region_inv {id : Nat} {a : Act} {w : World} (hm : P.follows .mixedOrders = true) (he : early ops = true) (I : Array Bool → Act → World → Prop) (h0 : I (Array.replicate ops.size false) a w.drew) (hsz : ∀ l a w, I l a w → l.size = ops.size)
    (step : ∀ i o, ops[i]? = some o → ∀ l a w, I l a w → l.getD i true = false → (o.after.all fun e => !Region.binds .any e || l.getD e.on false) = true → wpOp P ops Q i (I (l.setIfInBounds i true)) a w)
    (done : ∀ l a w, I l a w → (∀ i, i < ops.size → l.getD i true = true) → Q .normal a w) : (Code.region id ops true).wp P Q a w :=
  wp_region_any hm (any_inv he I hsz step done ops.size _ _ _ h0 (by rw [left_new]; exact Nat.le_refl _))

def waits (ops : Array Oper) (i : Nat) : List Nat := ((ops[i]?).map fun o => (o.after.toList.filter (Region.binds .any)).map (·.on)).getD []
def Shut (ops : Array Oper) (l : Array Bool) : Prop := ∀ i, l.getD i false = true → ∀ j ∈ waits ops i, l.getD j false = true
theorem waits_ok {l : Array Bool} {i : Nat} {o : Oper} (ho : ops[i]? = some o) (h : (o.after.all fun e => !Region.binds .any e || l.getD e.on false) = true) : ∀ j ∈ waits ops i, l.getD j false = true := by
  intro j hj
  unfold waits at hj
  rw [ho] at hj
  simp only [Option.map_some, Option.getD_some] at hj
  obtain ⟨e, he, rfl⟩ := List.mem_map.1 hj
  obtain ⟨he1, he2⟩ := List.mem_filter.1 he
  rw [Array.all_eq_true'] at h
  have := h e (by simpa using he1)
  rw [he2] at this
  simpa using this
theorem getD_tf {l : Array Bool} {i : Nat} (h : l.getD i true = false) : l.getD i false = false := by
  rw [Array.getD_eq_getD_getElem?] at h ⊢
  cases hx : l[i]? with
  | none => rw [hx] at h; simp at h
  | some x => rw [hx] at h; simpa using h
theorem getD_tt {l : Array Bool} {i : Nat} (hi : i < l.size) (h : l.getD i true = true) : l.getD i false = true := by
  rw [Array.getD_eq_getD_getElem?] at h ⊢
  rw [Array.getElem?_eq_getElem hi] at h ⊢
  simpa using h
theorem getD_set1 {l : Array Bool} {i j : Nat} {b : Bool} (hi : i < l.size) : (l.setIfInBounds i true).getD j b = if i = j then true else l.getD j b := by
  rw [Array.getD_eq_getD_getElem?, Array.getD_eq_getD_getElem?, Array.getElem?_setIfInBounds]
  split
  · simp [*]
  · rfl
theorem Shut.set {l : Array Bool} {i : Nat} (h : Shut ops l) (hi : i < l.size) (hw : ∀ j ∈ waits ops i, l.getD j false = true) : Shut ops (l.setIfInBounds i true) := by
  intro k hk j hj
  rw [getD_set1 hi] at hk ⊢
  split
  · rfl
  · by_cases e : i = k
    · subst e; exact hw j hj
    · rw [if_neg e] at hk
      exact h k hk j hj

/-- Which operations are ahead of which, as numbers in binary. -/
def maskOf (ws : List Nat) (m : List Nat) : Nat := ws.foldl (fun s j => s ||| (2 ^ j ||| m.getD j 0)) 0
def masks (ops : Array Oper) : Nat → List Nat
  | 0 => []
  | n + 1 => masks ops n ++ [maskOf (waits ops n) (masks ops n)]
theorem maskOf_bit {m : List Nat} {k : Nat} : ∀ (ws : List Nat) (s : Nat), (ws.foldl (fun s j => s ||| (2 ^ j ||| m.getD j 0)) s).testBit k = true → s.testBit k = true ∨ ∃ j ∈ ws, j = k ∨ (m.getD j 0).testBit k = true := by
  intro ws
  induction ws with
  | nil => intro s h; exact Or.inl h
  | cons x ws ih =>
    intro s h
    rcases ih _ h with h | ⟨j, hj, h⟩
    · rw [Nat.testBit_or, Nat.testBit_or, Bool.or_eq_true, Bool.or_eq_true] at h
      rcases h with h | h | h
      · exact Or.inl h
      · rw [Nat.testBit_two_pow] at h
        exact Or.inr ⟨x, List.mem_cons_self, Or.inl (by simpa using h)⟩
      · exact Or.inr ⟨x, List.mem_cons_self, Or.inr h⟩
    · exact Or.inr ⟨j, List.mem_cons_of_mem _ hj, h⟩
theorem masks_length (n : Nat) : (masks ops n).length = n := by
  induction n with
  | zero => rfl
  | succ n ih => simp [masks, ih]
theorem Shut.mask {l : Array Bool} (h : Shut ops l) : ∀ n i k, ((masks ops n).getD i 0).testBit k = true → l.getD i false = true → l.getD k false = true := by
  intro n
  induction n with
  | zero => intro i k hk; simp [masks] at hk
  | succ n ih =>
    intro i k hk hi
    have hlen := masks_length (ops := ops) n
    rcases Nat.lt_trichotomy i n with c | c | c
    · refine ih i k ?_ hi
      simpa [masks, List.getD_eq_getElem?_getD, List.getElem?_append_left (show i < (masks ops n).length by omega)] using hk
    · subst c
      have e : (masks ops (i + 1)).getD i 0 = maskOf (waits ops i) (masks ops i) := by
        rw [masks, List.getD_eq_getElem?_getD, List.getElem?_append_right (by omega)]
        simp [hlen]
      rw [e] at hk
      rcases maskOf_bit _ _ hk with h0 | ⟨j, hj, h0⟩
      · simp at h0
      · have h1 := h i hi j hj
        rcases h0 with h0 | h0
        · subst h0; exact h1
        · exact ih j k h0 h1
    · exfalso
      rw [List.getD_eq_getElem?_getD, List.getElem?_eq_none (by rw [masks_length]; omega)] at hk
      simp at hk
end

/-! Places, and what is written there. `V`: what a place holds. -/
section
variable {Loc V : Type}

/-- An operation's part: which places it looks at, and what it finds; what it writes. -/
structure Part (Loc V : Type) where
  rd : List (Loc × Option V)
  wr : Loc → Option (Option V)

def Part.upd (p : Part Loc V) (s : Loc → Option V) : Loc → Option V := fun x => (p.wr x).getD (s x)
def stAt (evs : Nat → Part Loc V) (s0 : Loc → Option V) (l : Nat → Bool) : Nat → Loc → Option V
  | 0 => s0
  | n + 1 => if l n = true then (evs n).upd (stAt evs s0 l n) else stAt evs s0 l n

theorem stAt_congr {evs : Nat → Part Loc V} {s0 : Loc → Option V} {l l' : Nat → Bool} {x : Loc} : ∀ n, (∀ j, j < n → ((evs j).wr x).isSome = true → l j = l' j) → stAt evs s0 l n x = stAt evs s0 l' n x := by
  intro n
  induction n with
  | zero => intro _; rfl
  | succ n ih =>
    intro h
    have ih' := ih fun j hj => h j (by omega)
    cases hw : (evs n).wr x with
    | none =>
      have e : ∀ l, stAt evs s0 l (n + 1) x = stAt evs s0 l n x := by
        intro l; simp only [stAt]; split
        · simp [Part.upd, hw]
        · rfl
      rw [e, e, ih']
    | some v =>
      have hn := h n (by omega) (by rw [hw]; rfl)
      simp only [stAt]
      rw [hn]
      split
      · simp [Part.upd, hw]
      · exact ih'
theorem stAt_last {evs : Nat → Part Loc V} {s0 : Loc → Option V} {l : Nat → Bool} {x : Loc} {i : Nat} {v : Option V} (hi : l i = true) (hw : (evs i).wr x = some v) :
    ∀ n, i < n → (∀ j, i < j → j < n → ((evs j).wr x).isSome = true → l j = false) → stAt evs s0 l n x = v := by
  intro n
  induction n with
  | zero => intro h; omega
  | succ n ih =>
    intro hn h
    by_cases e : i = n
    · subst e
      simp [stAt, hi, Part.upd, hw]
    · have ih' := ih (by omega) fun j h1 h2 => h j h1 (by omega)
      simp only [stAt]
      split
      · rename_i hl
        cases hx : (evs n).wr x with
        | none => simp [Part.upd, hx, ih']
        | some y => exact absurd hl (by rw [h n (by omega) (by omega) (by rw [hx]; rfl)]; decide)
      · exact ih'
theorem stAt_all (evs : Nat → Part Loc V) (s0 : Loc → Option V) {l l' : Nat → Bool} (n : Nat) (h : ∀ j, j < n → l j = l' j) : stAt evs s0 l n = stAt evs s0 l' n :=
  funext fun _ => stAt_congr n fun j hj _ => h j hj
/-- Behind position i nothing is done: what is there is what the first i left. -/
theorem stAt_cut (evs : Nat → Part Loc V) (s0 : Loc → Option V) (i : Nat) : ∀ n, i ≤ n → stAt evs s0 (fun j => decide (j < i)) n = stAt evs s0 (fun _ => true) i := by
  intro n
  induction n with
  | zero => intro h; obtain rfl : i = 0 := by omega
            rfl
  | succ n ih =>
    intro h
    by_cases e : i = n + 1
    · subst e
      exact stAt_all _ _ _ fun j hj => by simp [hj]
    · simp only [stAt]
      rw [if_neg (by simp; omega)]
      exact ih (by omega)

variable {P : Program} {ops : Array Oper} {Q : Exit → Act → World → Prop}

/-- THE RULE. `R s a w`: the frame and the world are as s says. -/
theorem region_parts {id : Nat} {a : Act} {w : World} (hm : P.follows .mixedOrders = true) (he : early ops = true) (R : (Loc → Option V) → Act → World → Prop) (evs : Nat → Part Loc V) (s0 : Loc → Option V)
    (hok : ∀ i, i < ops.size → ∀ s a w (K : Act → World → Prop), R s a w → (∀ r ∈ (evs i).rd, s r.1 = r.2) → (∀ a' w', R ((evs i).upd s) a' w' → K a' w') → wpOp P ops Q i K a w)
    (htext : ∀ i, i < ops.size → ∀ r ∈ (evs i).rd, stAt evs s0 (fun _ => true) i r.1 = r.2)
    (hconf : ∀ i j, i < j → j < ops.size → ∀ x, ((((evs i).wr x).isSome = true ∧ (((evs j).wr x).isSome = true ∨ x ∈ (evs j).rd.map (·.1))) ∨ (x ∈ (evs i).rd.map (·.1) ∧ ((evs j).wr x).isSome = true)) → ((masks ops ops.size).getD j 0).testBit i = true)
    (h0 : R s0 a w.drew) (hQ : ∀ a' w', R (stAt evs s0 (fun _ => true) ops.size) a' w' → Q .normal a' w') : (Code.region id ops true).wp P Q a w := by
  refine region_inv hm he (fun l a w => l.size = ops.size ∧ Shut ops l ∧ R (stAt evs s0 (fun j => l.getD j false) ops.size) a w) ?_ (fun l a w h => h.1) ?_ ?_
  · have e : ∀ k, (Array.replicate ops.size false).getD k false = false := by
      intro k
      rw [Array.getD_eq_getD_getElem?]
      by_cases h : k < ops.size <;> simp [h]
    refine ⟨by simp, (fun i hi => absurd hi (by rw [e]; decide)), ?_⟩
    have : stAt evs s0 (fun j => (Array.replicate ops.size false).getD j false) ops.size = s0 := by
      have h1 : ∀ n, stAt evs s0 (fun j => (Array.replicate ops.size false).getD j false) n = s0 := by
        intro n
        induction n with
        | zero => rfl
        | succ n ih => simp only [stAt]; rw [if_neg (by rw [e]; decide), ih]
      exact h1 _
    rw [this]
    exact h0
  · rintro i o ho l a w ⟨hs, hS, hR⟩ hl hd
    have hi : i < ops.size := (Array.getElem?_eq_some_iff.1 ho).1
    have hil : i < l.size := by omega
    have hw := waits_ok ho hd
    have hS2 := hS.set hil hw
    have hlf := getD_tf hl
    have hset : ∀ j, (l.setIfInBounds i true).getD j false = if i = j then true else l.getD j false := fun j => getD_set1 hil
    -- who is ahead of i is done; who is behind i is not
    have before : ∀ j, j < i → ((masks ops ops.size).getD i 0).testBit j = true → l.getD j false = true := by
      intro j hj hb
      have := hS2.mask ops.size i j hb (by rw [hset, if_pos rfl])
      rwa [hset, if_neg (by omega)] at this
    have behind : ∀ j, i < j → ((masks ops ops.size).getD j 0).testBit i = true → l.getD j false = false := by
      intro j hj hb
      cases hx : l.getD j false with
      | false => rfl
      | true => exact absurd (hS.mask ops.size j i hb hx) (by rw [hlf]; decide)
    refine hok i hi _ a w _ hR ?_ ?_
    · intro r hr
      have hmem : r.1 ∈ (evs i).rd.map (·.1) := List.mem_map.2 ⟨r, hr, rfl⟩
      rw [← htext i hi r hr, ← stAt_cut evs s0 i ops.size (by omega)]
      refine stAt_congr _ fun j hj hwj => ?_
      rcases Nat.lt_trichotomy j i with c | c | c
      · simp only [c, decide_true]
        exact before j c (hconf j i c hi r.1 (Or.inl ⟨hwj, Or.inr hmem⟩))
      · subst c; simp [hlf]
      · rw [behind j c (hconf i j c hj r.1 (Or.inr ⟨hmem, hwj⟩))]
        simp; omega
    · intro a' w' h
      refine ⟨by simpa using hs, hS2, ?_⟩
      have : stAt evs s0 (fun j => (l.setIfInBounds i true).getD j false) ops.size = (evs i).upd (stAt evs s0 (fun j => l.getD j false) ops.size) := by
        funext x
        cases hx : (evs i).wr x with
        | none =>
          have : (evs i).upd (stAt evs s0 (fun j => l.getD j false) ops.size) x = stAt evs s0 (fun j => l.getD j false) ops.size x := by simp [Part.upd, hx]
          rw [this]
          refine stAt_congr _ fun j hj hwj => ?_
          rw [hset, if_neg]
          intro e; subst e; rw [hx] at hwj; cases hwj
        | some v =>
          have : (evs i).upd (stAt evs s0 (fun j => l.getD j false) ops.size) x = v := by simp [Part.upd, hx]
          rw [this]
          refine stAt_last (l := fun j => (l.setIfInBounds i true).getD j false) (by show (l.setIfInBounds i true).getD i false = true; rw [hset, if_pos rfl]) hx _ hi fun j h1 h2 hwj => ?_
          rw [hset, if_neg (by omega)]
          exact behind j h1 (hconf i j h1 h2 x (Or.inl ⟨by rw [hx]; rfl, Or.inl hwj⟩))
      rw [this]
      exact h
  · rintro l a w ⟨hs, hS, hR⟩ hall
    refine hQ a w ?_
    rw [← stAt_all evs s0 (l := fun j => l.getD j false) ops.size fun j hj => getD_tt (by omega) (hall j hj)]
    exact hR

/-- In the order of the text. -/
theorem region_text {id : Nat} {a : Act} {w : World} (R : (Loc → Option V) → Act → World → Prop) (evs : Nat → Part Loc V) (s0 : Loc → Option V)
    (hok : ∀ i, i < ops.size → ∀ s a w (K : Act → World → Prop), R s a w → (∀ r ∈ (evs i).rd, s r.1 = r.2) → (∀ a' w', R ((evs i).upd s) a' w' → K a' w') → wpOp P ops Q i K a w)
    (htext : ∀ i, i < ops.size → ∀ r ∈ (evs i).rd, stAt evs s0 (fun _ => true) i r.1 = r.2)
    (h0 : R s0 a w) (hQ : ∀ a' w', R (stAt evs s0 (fun _ => true) ops.size) a' w' → Q .normal a' w') : (Code.region id ops false).wp P Q a w := by
  refine wp_region ?_
  have key : ∀ n k a w, k + n = ops.size → R (stAt evs s0 (fun _ => true) k) a w → wpOps P ops Q (List.range' k n) a w := by
    intro n
    induction n with
    | zero => intro k a w hk h; obtain rfl : k = ops.size := by omega
              exact hQ a w h
    | succ n ih =>
      intro k a w hk h
      rw [List.range'_succ, wpOps_cons]
      refine hok k (by omega) _ a w _ h (htext k (by omega)) fun a' w' h' => ih (k + 1) a' w' (by omega) ?_
      rw [show stAt evs s0 (fun _ => true) (k + 1) = (evs k).upd (stAt evs s0 (fun _ => true) k) from if_pos rfl]
      exact h'
  rw [List.range_eq_range']
  exact key _ _ _ _ (by omega) h0
end

end Sx
end Go.Proofs.YtpdhkgfdmpofiaaGreatDoor
