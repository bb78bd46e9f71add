/-
 A region that draws its order: operations whose values are known, at most two whose values are not (a slice that is built, an append), and one at the end. Each is carried out in the frame that all of them leave.
-/
import Derived.Test.YtmpilgkfbibhlaaGreatDoorG3R
set_option linter.unusedSimpArgs false
set_option linter.unusedVariables false
namespace Go.Proofs.YtmpilgkfbibhlaaGreatDoor
open Go.RowKit
section
variable {P : Program} {ops : Array Oper} {Q : Exit → Act → World → Prop}
theorem put_inj {y : Act} {d : Nat} {v v' : Value} (hd : d < y.tmps.size) (h : y.put (some d) v = y.put (some d) v') : v = v' := by
 have := congrArg (fun a : Act => a.tmps[d]?) h
 simpa [Act.put, Array.getElem?_setIfInBounds, hd] using this
theorem upon_congr {o : Oper} {x y : Act} {d : Nat} {C : Value → World → Prop} {r : Result Next} (hd : o.dst = some d) (hy : d < y.tmps.size)
  (h : o.upon P y (fun a' w' => ∃ v, a' = y.put (some d) v ∧ C v w') (fun _ _ _ => False) r) : o.upon P x (fun a' w' => ∃ v, a' = x.put (some d) v ∧ C v w') Q r := by
 cases r with
 | ok n w' =>
  cases n with
  | value v =>
   simp only [Oper.upon, hd] at h ⊢
   obtain ⟨v', e, hC⟩ := h
   rw [← put_inj hy e] at hC
   exact ⟨v, rfl, hC⟩
  | skip =>
   simp only [Oper.upon, hd] at h ⊢
   obtain ⟨v', e, hC⟩ := h
   rw [← put_inj hy e] at hC
   exact ⟨_, rfl, hC⟩
  | «defer» df =>
   simp only [Oper.upon, hd] at h
   obtain ⟨v', e, hC⟩ := h
   have := congrArg Act.defers e
   simp [Act.put] at this
  | enter f args =>
   simp only [Oper.upon, hd] at h ⊢
   refine h.mono fun e w'' he => ?_
   cases e with
   | returned v =>
    obtain ⟨v', e, hC⟩ := he
    rw [← put_inj hy e] at hC
    exact ⟨_, rfl, hC⟩
   | panicked c => exact absurd he id
   | outgrown => obtain ⟨_, _, hf⟩ := he; exact absurd hf id
  | row rw_ args =>
   simp only [Oper.upon, hd] at h ⊢
   refine h.mono fun v w'' he => ?_
   obtain ⟨v', e, hC⟩ := he
   rw [← put_inj hy e] at hC
   exact ⟨_, rfl, hC⟩
  | _ => exact absurd h id
 | halt hh w' =>
  cases hh <;> exact absurd h id
theorem put_at (a : Act) (d t : Nat) (v : Value) : (a.put (some d) v).tmps[t]? = if d = t then (if d < a.tmps.size then some v else none) else a.tmps[t]? := by
 simp only [Act.put, Array.getElem?_setIfInBounds]
theorem act_ext {p q : Act} (h1 : p.tmps = q.tmps) (h2 : p.defers = q.defers) : p = q := by
 obtain ⟨a, b⟩ := p
 obtain ⟨c, d⟩ := q
 dsimp only at h1 h2
 rw [h1, h2]
end
end Go.Proofs.YtmpilgkfbibhlaaGreatDoor
namespace Go.Proofs.YtmpilgkfbibhlaaGreatDoor
open Go.RowKit
section
variable {P : Program} {ops : Array Oper} {Q : Exit → Act → World → Prop}
theorem getD_someE {a : Act} {t : Nat} (h : t < a.tmps.size) : a.tmps[t]? = some (a.tmps.getD t undef) := by
 rw [Array.getD_eq_getD_getElem?, Array.getElem?_eq_getElem h]; rfl
theorem getD_noneE {a : Act} {t : Nat} (h : ¬ t < a.tmps.size) : a.tmps[t]? = none := by
 rw [Array.getElem?_eq_none_iff]; omega
def putE (a : Act) : List (Nat × Nat) → List Value → Act
 | e :: E, v :: vs => (putE a E vs).put (some e.2) v
 | _, _ => a
theorem putE_size (a : Act) : ∀ (E : List (Nat × Nat)) (vs : List Value), (putE a E vs).tmps.size = a.tmps.size
 | [], _ => by simp [putE]
 | _ :: _, [] => by simp [putE]
 | e :: E, v :: vs => by
  have := putE_size a E vs
  simpa [putE, Act.put] using this
theorem putE_defers (a : Act) : ∀ (E : List (Nat × Nat)) (vs : List Value), (putE a E vs).defers = a.defers
 | [], _ => by simp [putE]
 | _ :: _, [] => by simp [putE]
 | e :: E, v :: vs => by
  have := putE_defers a E vs
  simpa [putE, Act.put] using this
theorem putE_get (a x : Act) (hs : a.tmps.size = x.tmps.size) : ∀ (E : List (Nat × Nat)) (t : Nat), (putE a E (E.map fun e => x.tmps.getD e.2 undef)).tmps[t]? = if t ∈ E.map (·.2) then x.tmps[t]? else a.tmps[t]?
 | [], t => by simp [putE]
 | e :: E, t => by
  have ih := putE_get a x hs E t
  simp only [List.map_cons, putE]
  rw [put_at, putE_size]
  by_cases c : e.2 = t
  ·subst c
   rw [if_pos rfl, if_pos (List.mem_cons_self ..)]
   by_cases hlt : e.2 < x.tmps.size
   ·rw [if_pos (by omega), getD_someE hlt]
   ·rw [if_neg (by omega), getD_noneE hlt]
  ·rw [if_neg c, ih]
   have : (t ∈ e.2 :: E.map (·.2)) ↔ t ∈ E.map (·.2) := by
    rw [List.mem_cons]
    exact ⟨fun h => h.resolve_left (fun h => c h.symm), Or.inr⟩
   by_cases m : t ∈ E.map (·.2)
   ·rw [if_pos m, if_pos (this.2 m)]
   ·rw [if_neg m, if_neg (fun h => m (this.1 h))]
def efB (ops : Array Oper) (N f : Nat) (E : List (Nat × Nat)) (plan : List (Option Nat × List Nat)) : Bool :=
 ((List.range N).all fun i => match ops[i]?, plan[i]? with
 | some o, some p => o.guard.isNone && plainOp o.op && o.dst.isSome && (o.op.operands.all fun x => match x with
   | .tmp t => (E.map (·.2)).contains t || (List.range N).all fun j => decide (dstOf ops j ≠ some t) || (waits ops i).contains j
   | _ => true) && ((List.range N).all fun j => decide (j = i) || decide (dstOf ops j ≠ dstOf ops i)) &&
   (p.2.all fun k => match E[k]? with | some e => (waits ops i).contains e.1 || (waits ops i).any fun j => (ancs ops f j).contains e.1 | none => false) &&
   (match p.1 with | none => E.all fun e => decide (e.1 ≠ i) | some k => (match E[k]? with | some e => decide (e.1 = i) | none => false))
 | _, _ => false) &&
 ((List.range E.length).all fun k => match E[k]? with | some e => decide (e.1 < N) && decide (dstOf ops e.1 = some e.2) && decide ((plan[e.1]?).map (·.1) = some (some k)) | none => false)
structure EfAt (ops : Array Oper) (N f : Nat) (E : List (Nat × Nat)) (plan : List (Option Nat × List Nat)) (i : Nat) (o : Oper) (p : Option Nat × List Nat) : Prop where
 plan : plan[i]? = some p
 guard : o.guard = none
 sel : ∀ cs b, o.op ≠ .select cs b
 dst : ∃ d, o.dst = some d
 looks : ∀ t, Operand.tmp t ∈ o.op.operands → t ∈ E.map (·.2) ∨ ∀ j, j < N → dstOf ops j = some t → j ∈ waits ops i
 one : ∀ j, j < N → j ≠ i → dstOf ops j ≠ dstOf ops i
 need : ∀ k ∈ p.2, ∃ e, E[k]? = some e ∧ (e.1 ∈ waits ops i ∨ ∃ j ∈ waits ops i, e.1 ∈ ancs ops f j)
 no : p.1 = none → ∀ e ∈ E, e.1 ≠ i
 yes : ∀ k, p.1 = some k → ∃ e, E[k]? = some e ∧ e.1 = i
theorem ef_at {N f i : Nat} {E : List (Nat × Nat)} {plan : List (Option Nat × List Nat)} {o : Oper} (h : efB ops N f E plan = true) (hi : i < N) (ho : ops[i]? = some o) : ∃ p, EfAt ops N f E plan i o p := by
 unfold efB at h
 rw [Bool.and_eq_true] at h
 have h1 := List.all_eq_true.1 h.1 i (List.mem_range.2 hi)
 rw [ho] at h1
 cases hp : plan[i]? with
 | none => rw [hp] at h1; cases h1
 | some p =>
  rw [hp] at h1
  simp only [Bool.and_eq_true] at h1
  obtain ⟨⟨⟨⟨⟨⟨h1, h2⟩, h3⟩, h4⟩, h5⟩, h6⟩, h7⟩ := h1
  refine ⟨p, hp, by simpa using h1, ?_, Option.isSome_iff_exists.1 h3, ?_, ?_, ?_, ?_, ?_⟩
  ·intro cs b e; rw [e] at h2; simp [plainOp] at h2
  ·intro t ht
   rw [Array.all_eq_true'] at h4
   have h8 := h4 (.tmp t) ht
   simp only [Bool.or_eq_true] at h8
   rcases h8 with h8 | h8
   ·exact Or.inl (by simpa using h8)
   ·refine Or.inr fun j hj hd => ?_
    have h9 := List.all_eq_true.1 h8 j (List.mem_range.2 hj)
    simp only [Bool.or_eq_true, decide_eq_true_eq] at h9
    rcases h9 with h9 | h9
    ·exact absurd hd h9
    ·simpa using h9
  ·intro j hj hne
   have h8 := List.all_eq_true.1 h5 j (List.mem_range.2 hj)
   simp only [Bool.or_eq_true, decide_eq_true_eq] at h8
   rcases h8 with h8 | h8
   ·exact absurd h8 hne
   ·exact h8
  ·intro k hk
   have h8 := List.all_eq_true.1 h6 k hk
   cases he : E[k]? with
   | none => rw [he] at h8; cases h8
   | some e =>
    rw [he] at h8
    simp only [Bool.or_eq_true, List.any_eq_true] at h8
    refine ⟨e, rfl, ?_⟩
    rcases h8 with h8 | ⟨j, h8, h9⟩
    ·exact Or.inl (by simpa using h8)
    ·exact Or.inr ⟨j, h8, by simpa using h9⟩
  ·intro hn e he
   rw [hn] at h7
   simpa using List.all_eq_true.1 h7 e he
  ·intro k hk
   rw [hk] at h7
   simp only at h7
   cases he : E[k]? with
   | none => rw [he] at h7; cases h7
   | some e => rw [he] at h7; exact ⟨e, rfl, by simpa using h7⟩
theorem ef_eff {N f k : Nat} {E : List (Nat × Nat)} {plan : List (Option Nat × List Nat)} {e : Nat × Nat} (h : efB ops N f E plan = true) (he : E[k]? = some e) : e.1 < N ∧ dstOf ops e.1 = some e.2 ∧ (plan[e.1]?).map (·.1) = some (some k) := by
 unfold efB at h
 rw [Bool.and_eq_true] at h
 have hk : k < E.length := (List.getElem?_eq_some_iff.1 he).1
 have h1 := List.all_eq_true.1 h.2 k (List.mem_range.2 hk)
 rw [he] at h1
 simp only [Bool.and_eq_true, decide_eq_true_eq] at h1
 exact ⟨h1.1.1, h1.1.2, h1.2⟩
def RdE (P : Program) (St : List Bool → List Value → World → Prop) (AF : Act) (E : List (Nat × Nat)) (need : List Nat) (o : Oper) : Prop :=
 ∃ d v, o.dst = some d ∧ AF.tmps[d]? = some v ∧ ∀ bs vs W, bs.length = E.length → vs.length = E.length → (∀ k ∈ need, bs.getD k false = true) → St bs vs W →
  ∀ (K : Act → World → Prop) (Q : Exit → Act → World → Prop), (∀ W', St bs vs W' → K ((putE AF E vs).put (some d) v) W') → o.wp P (putE AF E vs) W K Q
def EfE (P : Program) (St : List Bool → List Value → World → Prop) (AF : Act) (E : List (Nat × Nat)) (k : Nat) (need : List Nat) (o : Oper) : Prop :=
 ∃ d, o.dst = some d ∧ ∀ bs vs W, bs.length = E.length → vs.length = E.length → (∀ k ∈ need, bs.getD k false = true) → bs.getD k false = false → St bs vs W →
  ∀ (K : Act → World → Prop) (Q : Exit → Act → World → Prop), (∀ v W', St (bs.set k true) (vs.set k v) W' → K ((putE AF E vs).put (some d) v) W') → o.wp P (putE AF E vs) W K Q
def AllE (R : List Nat → Oper → Prop) (F : Nat → List Nat → Oper → Prop) : List (Option Nat × List Nat) → List Oper → Prop
 | (none, nd) :: ks, o :: l => R nd o ∧ AllE R F ks l
 | (some k, nd) :: ks, o :: l => F k nd o ∧ AllE R F ks l
 | _, _ => True
theorem AllE.at_ {R : List Nat → Oper → Prop} {F : Nat → List Nat → Oper → Prop} : ∀ {ks : List (Option Nat × List Nat)} {l : List Oper}, AllE R F ks l → ∀ (i : Nat) (o : Oper) (p : Option Nat × List Nat), l[i]? = some o → ks[i]? = some p → (match p.1 with | none => R p.2 o | some k => F k p.2 o)
 | [], _, _, i, o, p, _, hp => by simp at hp
 | _ :: _, [], _, i, o, p, ho, _ => by simp at ho
 | (none, nd) :: ks, x :: l, h, 0, o, p, ho, hp => by
  simp only [List.getElem?_cons_zero, Option.some.injEq] at ho hp
  subst ho hp
  exact h.1
 | (some k, nd) :: ks, x :: l, h, 0, o, p, ho, hp => by
  simp only [List.getElem?_cons_zero, Option.some.injEq] at ho hp
  subst ho hp
  exact h.1
 | (none, nd) :: ks, x :: l, h, i + 1, o, p, ho, hp => AllE.at_ (ks := ks) (l := l) h.2 i o p (by simpa using ho) (by simpa using hp)
 | (some k, nd) :: ks, x :: l, h, i + 1, o, p, ho, hp => AllE.at_ (ks := ks) (l := l) h.2 i o p (by simpa using ho) (by simpa using hp)
theorem shut_anc {l : Array Bool} (hS : Shut ops l) {i f : Nat} {e : Nat} (hw : ∀ j ∈ waits ops i, l.getD j false = true) (h : e ∈ waits ops i ∨ ∃ j ∈ waits ops i, e ∈ ancs ops f j) : l.getD e false = true := by
 rcases h with h | ⟨j, hj, h⟩
 ·exact hw e h
 ·exact hS.anc f j (hw j hj) e h
theorem region_effs {id : Nat} {a : Act} {w : World} (N f : Nat) (E : List (Nat × Nat)) (plan : List (Option Nat × List Nat)) (vals : List (Nat × Value)) (St : List Bool → List Value → World → Prop) (hm : P.follows .mixedOrders = true) (he : early ops = true) (hs0 : ops.size = N + 1)
  (hA : ((List.range N).all fun j => (ancs ops f N).contains j) = true) (hH : efB ops N f E plan = true) (hsu : ∀ e ∈ E, e.2 < a.tmps.size)
  (hds : vals.map (fun p => some p.1) = ((List.range N).filter fun i => E.all fun e => decide (e.1 ≠ i)).map (dstOf ops))
  (h0 : ∀ vs, vs.length = E.length → St (E.map fun _ => false) vs w.drew) (each : AllE (RdE P St (updAll a vals) E) (EfE P St (updAll a vals) E) plan (ops.toList.take N))
  (tail : ∀ vs W, vs.length = E.length → St (E.map fun _ => true) vs W → wpOp P ops Q N (fun a2 w2 => Q .normal a2 w2) (putE (updAll a vals) E vs) W) :
  (Code.region id ops true).wp P Q a w := by
 have hA' : ∀ j, j < N → j ∈ ancs ops f N := fun j hj => by simpa using List.all_eq_true.1 hA j (List.mem_range.2 hj)
 have hidx : ∀ j, (E.all fun e => decide (e.1 ≠ j)) = true ↔ ∀ e ∈ E, e.1 ≠ j := fun j => by simp
 have hsame : ∀ t, (∀ j, j < N → (∀ e ∈ E, e.1 ≠ j) → dstOf ops j ≠ some t) → (updAll a vals).tmps[t]? = a.tmps[t]? := fun t ht => updAll_same _ _ _ fun p hp e => by
  have h1 : some p.1 ∈ vals.map (fun p => some p.1) := List.mem_map.2 ⟨p, hp, rfl⟩
  rw [hds] at h1
  obtain ⟨j, hj, hjd⟩ := List.mem_map.1 h1
  obtain ⟨hj1, hj2⟩ := List.mem_filter.1 hj
  exact ht j (List.mem_range.1 hj1) ((hidx j).1 hj2) (by rw [hjd, e])
 have hdf : (updAll a vals).defers = a.defers := updAll_defers _ _
 have hsz : (updAll a vals).tmps.size = a.tmps.size := updAll_size _ _
 have hob : ∀ i o p, i < N → ops[i]? = some o → plan[i]? = some p → (match p.1 with | none => RdE P St (updAll a vals) E p.2 o | some k => EfE P St (updAll a vals) E k p.2 o) := fun i o p hi ho hp => each.at_ i o p (by
  rw [List.getElem?_take_of_lt hi, Array.getElem?_toList]; exact ho) hp
 clear each
 generalize updAll a vals = AF at *
 refine region_inv hm he (fun l x W => l.size = ops.size ∧ Shut ops l ∧ ((l.getD N false = true ∧ Q .normal x W) ∨ (l.getD N true = false ∧ x.defers = a.defers ∧ x.tmps.size = a.tmps.size ∧
  (∀ j, j < N → (∀ e ∈ E, e.1 ≠ j) → l.getD j false = true → ∀ t, dstOf ops j = some t → x.tmps[t]? = AF.tmps[t]?) ∧
  (∀ t, (∀ j, j < N → dstOf ops j = some t → l.getD j false = false) → x.tmps[t]? = a.tmps[t]?) ∧ St (E.map fun e => l.getD e.1 false) (E.map fun e => x.tmps.getD e.2 undef) W))) ?_ (fun l a w h => h.1) ?_ ?_
 ·refine ⟨by simp, ?_, Or.inr ⟨?_, rfl, rfl, fun j hj _ h => ?_, fun _ _ => rfl, ?_⟩⟩
  ·intro i hi
   rw [Array.getD_eq_getD_getElem?] at hi
   by_cases h : i < ops.size <;> simp [h] at hi
  ·rw [Array.getD_eq_getD_getElem?]; simp [hs0]
  ·rw [Array.getD_eq_getD_getElem?] at h
   simp [hs0, show j < N + 1 by omega] at h
  ·have e : ∀ k, (Array.replicate ops.size false).getD k false = false := by
    intro k
    rw [Array.getD_eq_getD_getElem?]
    by_cases h : k < ops.size <;> simp [h]
   simp only [e]
   exact h0 _ (by simp)
 ·rintro i o ho l x W ⟨hs, hS, hJ⟩ hl hd
  have hio : i < ops.size := (Array.getElem?_eq_some_iff.1 ho).1
  have hil : i < l.size := by rw [hs]; exact hio
  have hw := waits_ok ho hd
  have hS2 := hS.set hil hw
  have hs2 : (l.setIfInBounds i true).size = ops.size := by simpa using hs
  rcases hJ with ⟨j1, _⟩ | ⟨jN, x1, x2, x3, x4, x5⟩
  ·rcases Nat.lt_or_ge i N with hi | hi
   ·exact absurd (hS.anc f N j1 i (hA' i hi)) (by rw [getD_tf hl]; decide)
   ·obtain rfl : i = N := by omega
    exact absurd j1 (by rw [getD_tf hl]; decide)
  have hFx := putE_get AF x (by rw [hsz, x2]) E
  rcases Nat.lt_or_ge i N with hi | hi
  ·obtain ⟨p, hC⟩ := ef_at hH hi ho
   obtain ⟨d, hd1⟩ := hC.dst
   have hdi : dstOf ops i = some d := by unfold dstOf; rw [ho]; exact hd1
   have hev : ∀ y ∈ o.op.operands, x.eval y = (putE AF E (E.map fun e => x.tmps.getD e.2 undef)).eval y := by
    intro y hy
    refine eval_same fun t ht => ?_
    subst ht
    rw [hFx]
    by_cases c1 : t ∈ E.map (·.2)
    ·rw [if_pos c1]
    ·rw [if_neg c1]
     rcases hC.looks t hy with c2 | c2
     ·exact absurd c2 c1
     by_cases hc : ∃ j, j < N ∧ dstOf ops j = some t
     ·obtain ⟨j, hj, hjt⟩ := hc
      refine x3 j hj (fun e heE hej => c1 ?_) (hw j (c2 j hj hjt)) t hjt
      obtain ⟨k, hk⟩ := List.getElem?_of_mem heE
      have q := (ef_eff hH hk).2.1
      rw [hej, hjt] at q
      exact List.mem_map.2 ⟨e, heE, (Option.some.inj q).symm⟩
     ·have hno : ∀ j, j < N → dstOf ops j ≠ some t := fun j hj e => hc ⟨j, hj, e⟩
      rw [x4 t (fun j hj e => absurd e (hno j hj)), hsame t (fun j hj _ => hno j hj)]
   have hex := execOp_congr o hC.sel hev
   have hneed : ∀ k ∈ p.2, (E.map fun e => l.getD e.1 false).getD k false = true := by
    intro k hk
    obtain ⟨e, he1, he2⟩ := hC.need k hk
    rw [List.getD_eq_getElem?_getD, List.getElem?_map, he1]
    exact shut_anc hS hw he2
   have hput : d < a.tmps.size → ∀ (C : Value → World → Prop), (∀ (K : Act → World → Prop) (Q : Exit → Act → World → Prop), (∀ v W', C v W' → K ((putE AF E (E.map fun e => x.tmps.getD e.2 undef)).put (some d) v) W') → o.wp P (putE AF E (E.map fun e => x.tmps.getD e.2 undef)) W K Q) → wpOp P ops Q i (fun a' w' => ∃ v, a' = x.put (some d) v ∧ C v w') x W := by
    intro hdlt C hC2
    unfold wpOp
    rw [ho]
    simp only [Region.wanted, hC.guard, if_true]
    refine Or.inl ?_
    have h1 := hC2 (fun a' w' => ∃ v, a' = (putE AF E (E.map fun e => x.tmps.getD e.2 undef)).put (some d) v ∧ C v w') (fun _ _ _ => False) (fun v W' h => ⟨v, rfl, h⟩)
    unfold Oper.wp at h1 ⊢
    rw [hex]
    exact upon_congr hd1 (by rw [putE_size, hsz]; exact hdlt) h1
   have hgd : d < a.tmps.size → ∀ (v : Value) (t : Nat), (x.put (some d) v).tmps.getD t undef = if d = t then v else x.tmps.getD t undef := by
    intro hdlt v t
    rw [Array.getD_eq_getD_getElem?, put_at]
    by_cases e : d = t
    ·rw [if_pos e, if_pos e, if_pos (by rw [x2]; exact hdlt)]; rfl
    ·rw [if_neg e, if_neg e, Array.getD_eq_getD_getElem?]
   have hfr : d < a.tmps.size → ∀ v W', (p.1 = none → AF.tmps[d]? = some v) → St (E.map fun e => (l.setIfInBounds i true).getD e.1 false) (E.map fun e => (x.put (some d) v).tmps.getD e.2 undef) W' →
     ((l.setIfInBounds i true).size = ops.size ∧ Shut ops (l.setIfInBounds i true) ∧ (((l.setIfInBounds i true).getD N false = true ∧ Q .normal (x.put (some d) v) W') ∨ ((l.setIfInBounds i true).getD N true = false ∧ (x.put (some d) v).defers = a.defers ∧ (x.put (some d) v).tmps.size = a.tmps.size ∧
  (∀ j, j < N → (∀ e ∈ E, e.1 ≠ j) → (l.setIfInBounds i true).getD j false = true → ∀ t, dstOf ops j = some t → (x.put (some d) v).tmps[t]? = AF.tmps[t]?) ∧
  (∀ t, (∀ j, j < N → dstOf ops j = some t → (l.setIfInBounds i true).getD j false = false) → (x.put (some d) v).tmps[t]? = a.tmps[t]?) ∧ St (E.map fun e => (l.setIfInBounds i true).getD e.1 false) (E.map fun e => (x.put (some d) v).tmps.getD e.2 undef) W'))) := by
    intro hdlt v W' hv hSt
    have hlt : d < x.tmps.size := by rw [x2]; exact hdlt
    refine ⟨hs2, hS2, Or.inr ⟨?_, x1, by simpa [Act.put] using x2, ?_, ?_, hSt⟩⟩
    ·rw [getD_set1 hil, if_neg (by omega)]; exact jN
    ·intro j hj m1 hjl t hjt
     rw [put_at]
     by_cases e : d = t
     ·subst e
      rw [if_pos rfl, if_pos hlt]
      have hji : j = i := Classical.byContradiction fun c => hC.one j hj c (by rw [hjt, hdi])
      subst hji
      refine (hv ?_).symm
      cases hp : p.1 with
      | none => rfl
      | some k => obtain ⟨e, he1, he2⟩ := hC.yes k hp; exact absurd he2 (m1 e (List.mem_of_getElem? he1))
     ·rw [if_neg e]
      have hji : j ≠ i := fun c => by subst c; rw [hdi] at hjt; exact e (Option.some.inj hjt)
      rw [getD_set1 hil, if_neg (fun c => hji c.symm)] at hjl
      exact x3 j hj m1 hjl t hjt
    ·intro t ht
     rw [put_at]
     have hdt : d ≠ t := fun c => by
      subst c
      have := ht i hi hdi
      rw [getD_set1 hil, if_pos rfl] at this
      cases this
     rw [if_neg hdt]
     refine x4 t fun j hj hjt => ?_
     have := ht j hj hjt
     rw [getD_set1 hil] at this
     split at this
     ·cases this
     ·exact this
   have hO := hob i o p hi ho hC.plan
   obtain ⟨pk, nd⟩ := p
   cases pk with
   | none =>
    obtain ⟨d', v, g1, g2, g3⟩ := hO
    rw [hd1] at g1
    obtain rfl : d = d' := Option.some.inj g1
    have hdlt : d < a.tmps.size := by
     have := (Array.getElem?_eq_some_iff.1 g2).1
     rw [hsz] at this
     exact this
    have hE := hC.no rfl
    refine wpOp_mono ?_ (hput hdlt (fun v' W' => v' = v ∧ St (E.map fun e => l.getD e.1 false) (E.map fun e => x.tmps.getD e.2 undef) W') (fun K Q hK => g3 _ _ W (by simp) (by simp) hneed x5 K Q (fun W' h => hK v W' ⟨rfl, h⟩)))
    rintro a' w' ⟨v', rfl, rfl, hv⟩
    refine hfr hdlt v' w' (fun _ => g2) ?_
    have q1 : (E.map fun e => (l.setIfInBounds i true).getD e.1 false) = E.map fun e => l.getD e.1 false := List.map_congr_left fun e he => by
     rw [getD_set1 hil, if_neg (fun c => hE e he c.symm)]
    have q2 : (E.map fun e => (x.put (some d) v').tmps.getD e.2 undef) = E.map fun e => x.tmps.getD e.2 undef := List.map_congr_left fun e he => by
     obtain ⟨k, hk⟩ := List.getElem?_of_mem he
     have q := ef_eff hH hk
     rw [hgd hdlt, if_neg (fun c => hC.one e.1 q.1 (hE e he) (by rw [q.2.1, hdi, c]))]
    rw [q1, q2]
    exact hv
   | some k =>
    obtain ⟨d', g1, g3⟩ := hO
    rw [hd1] at g1
    obtain rfl : d = d' := Option.some.inj g1
    obtain ⟨ek, hk, hek⟩ := hC.yes k rfl
    have qk := ef_eff hH hk
    have hde : d = ek.2 := by
     have := qk.2.1
     rw [hek, hdi] at this
     exact Option.some.inj this
    have hdlt : d < a.tmps.size := by rw [hde]; exact hsu ek (List.mem_of_getElem? hk)
    have hbk : (E.map fun e => l.getD e.1 false).getD k false = false := by
     rw [List.getD_eq_getElem?_getD, List.getElem?_map, hk]
     show l.getD ek.1 false = false
     rw [hek]
     exact getD_tf hl
    refine wpOp_mono ?_ (hput hdlt (fun v' W' => St ((E.map fun e => l.getD e.1 false).set k true) ((E.map fun e => x.tmps.getD e.2 undef).set k v') W') (fun K Q hK => g3 _ _ W (by simp) (by simp) hneed hbk x5 K Q hK))
    rintro a' w' ⟨v', rfl, hv⟩
    refine hfr hdlt v' w' (fun c => by cases c) ?_
    have hkl : k < E.length := (List.getElem?_eq_some_iff.1 hk).1
    have hm : ∀ m e, E[m]? = some e → e.1 = i → m = k := by
     intro m e hme h
     have q := (ef_eff hH hme).2.2
     have q' := qk.2.2
     rw [h] at q
     rw [hek, q] at q'
     exact Option.some.inj (Option.some.inj q')
    have q1 : (E.map fun e => (l.setIfInBounds i true).getD e.1 false) = (E.map fun e => l.getD e.1 false).set k true := by
     refine List.ext_getElem? fun m => ?_
     rw [List.getElem?_set, List.getElem?_map, List.getElem?_map]
     cases hE : E[m]? with
     | none =>
      have : E.length ≤ m := List.getElem?_eq_none_iff.1 hE
      rw [if_neg (by omega)]; rfl
     | some e =>
      simp only [Option.map_some]
      rw [getD_set1 hil]
      by_cases c : k = m
      ·subst c
       rw [hk] at hE
       obtain rfl := Option.some.inj hE
       rw [if_pos hek.symm, if_pos rfl, if_pos (by simpa using hkl)]
      ·rw [if_neg (fun h => c (hm m e hE h.symm).symm), if_neg c]
    have q2 : (E.map fun e => (x.put (some d) v').tmps.getD e.2 undef) = (E.map fun e => x.tmps.getD e.2 undef).set k v' := by
     refine List.ext_getElem? fun m => ?_
     rw [List.getElem?_set, List.getElem?_map, List.getElem?_map]
     cases hE : E[m]? with
     | none =>
      have : E.length ≤ m := List.getElem?_eq_none_iff.1 hE
      rw [if_neg (by omega)]; rfl
     | some e =>
      simp only [Option.map_some]
      rw [hgd hdlt]
      by_cases c : k = m
      ·subst c
       rw [hk] at hE
       obtain rfl := Option.some.inj hE
       rw [if_pos hde, if_pos rfl, if_pos (by simpa using hkl)]
      ·have hne : e.1 ≠ i := fun h => c (hm m e hE h).symm
       have q := ef_eff hH hE
       rw [if_neg (fun h => hC.one e.1 q.1 hne (by rw [q.2.1, hdi, h])), if_neg c]
    rw [q1, q2]
    exact hv
  ·obtain rfl : i = N := by omega
   have hall : ∀ j, j < i → l.getD j false = true := by
    intro j hj
    have := hS2.anc f i (by rw [getD_set1 hil, if_pos rfl]) j (hA' j hj)
    rwa [getD_set1 hil, if_neg (by omega)] at this
   have q1 : (E.map fun e => l.getD e.1 false) = E.map fun _ => true := List.map_congr_left fun e he => by
    obtain ⟨k, hk⟩ := List.getElem?_of_mem he
    exact hall e.1 (ef_eff hH hk).1
   rw [q1] at x5
   have hx : x = putE AF E (E.map fun e => x.tmps.getD e.2 undef) := by
    refine act_ext (Array.ext_getElem? fun t => ?_) (by rw [putE_defers, hdf, x1])
    rw [hFx]
    by_cases c1 : t ∈ E.map (·.2)
    ·rw [if_pos c1]
    ·rw [if_neg c1]
     by_cases hc : ∃ j, j < i ∧ dstOf ops j = some t
     ·obtain ⟨j, hj, hjt⟩ := hc
      refine x3 j hj (fun e heE hej => c1 ?_) (hall j hj) t hjt
      obtain ⟨k, hk⟩ := List.getElem?_of_mem heE
      have q := (ef_eff hH hk).2.1
      rw [hej, hjt] at q
      exact List.mem_map.2 ⟨e, heE, (Option.some.inj q).symm⟩
     ·have hno : ∀ j, j < i → dstOf ops j ≠ some t := fun j hj e => hc ⟨j, hj, e⟩
      rw [x4 t (fun j hj e => absurd e (hno j hj)), hsame t (fun j hj _ => hno j hj)]
   have ht := tail _ W (by simp) x5
   rw [← hx] at ht
   refine wpOp_mono ?_ ht
   intro a' w' h
   exact ⟨hs2, hS2, Or.inl ⟨by rw [getD_set1 hil, if_pos rfl], h⟩⟩
 ·rintro l x W ⟨hs, hS, hJ⟩ hall
  rcases hJ with ⟨_, j⟩ | ⟨j, _⟩
  ·exact j
  ·rw [hall N (by omega)] at j; cases j
theorem len_one {α : Type} {n : Nat} {l : List α} (h : l.length = n + 1) : ∃ x m, l = x :: m ∧ m.length = n := by
 cases l with
 | nil => simp at h
 | cons x m => exact ⟨x, m, rfl, by simpa using h⟩
theorem len_nil {α : Type} {l : List α} (h : l.length = 0) : l = [] := List.length_eq_zero_iff.1 h
end
end Go.Proofs.YtmpilgkfbibhlaaGreatDoor
namespace Go.Proofs.YtmpilgkfbibhlaaGreatDoor
open Go.RowKit
section
variable {P : Program} {ops : Array Oper} {Q : Exit → Act → World → Prop}
def egB (ops : Array Oper) (N f z : Nat) (E : List (Nat × Nat)) (plan : List (Option Nat × List Nat)) : Bool :=
 ((List.range N).all fun i => match ops[i]?, plan[i]? with
 | some o, some p => o.guard.isNone && plainOp o.op && (o.op.operands.all fun x => match x with
   | .tmp t => (E.map (·.2)).contains t || (List.range N).all fun j => decide (dstOf ops j ≠ some t) || (waits ops i).contains j
   | _ => true) && ((List.range N).all fun j => decide (j = i) || decide (dstOf ops j = none) || decide (dstOf ops j ≠ dstOf ops i)) &&
   (p.2.all fun k => match E[k]? with | some e => (waits ops i).contains e.1 || (waits ops i).any fun j => (ancs ops f j).contains e.1 | none => false) &&
   (match p.1 with | none => E.all fun e => decide (e.1 ≠ i) | some k => (match E[k]? with | some e => decide (e.1 = i) | none => false))
 | _, _ => false) &&
 ((List.range E.length).all fun k => match E[k]? with | some e => decide (e.1 < N) && (decide (dstOf ops e.1 = some e.2) && decide (e.2 < z) || decide (dstOf ops e.1 = none) && decide (z ≤ e.2)) && decide ((plan[e.1]?).map (·.1) = some (some k)) | none => false)
structure EgAt (ops : Array Oper) (N f : Nat) (E : List (Nat × Nat)) (plan : List (Option Nat × List Nat)) (i : Nat) (o : Oper) (p : Option Nat × List Nat) : Prop where
 plan : plan[i]? = some p
 guard : o.guard = none
 sel : ∀ cs b, o.op ≠ .select cs b
 looks : ∀ t, Operand.tmp t ∈ o.op.operands → t ∈ E.map (·.2) ∨ ∀ j, j < N → dstOf ops j = some t → j ∈ waits ops i
 one : ∀ j, j < N → j ≠ i → dstOf ops j = none ∨ dstOf ops j ≠ dstOf ops i
 need : ∀ k ∈ p.2, ∃ e, E[k]? = some e ∧ (e.1 ∈ waits ops i ∨ ∃ j ∈ waits ops i, e.1 ∈ ancs ops f j)
 no : p.1 = none → ∀ e ∈ E, e.1 ≠ i
 yes : ∀ k, p.1 = some k → ∃ e, E[k]? = some e ∧ e.1 = i
theorem eg_at {N f z i : Nat} {E : List (Nat × Nat)} {plan : List (Option Nat × List Nat)} {o : Oper} (h : egB ops N f z E plan = true) (hi : i < N) (ho : ops[i]? = some o) : ∃ p, EgAt ops N f E plan i o p := by
 unfold egB at h
 rw [Bool.and_eq_true] at h
 have h1 := List.all_eq_true.1 h.1 i (List.mem_range.2 hi)
 rw [ho] at h1
 cases hp : plan[i]? with
 | none => rw [hp] at h1; cases h1
 | some p =>
  rw [hp] at h1
  simp only [Bool.and_eq_true] at h1
  obtain ⟨⟨⟨⟨⟨h1, h2⟩, h4⟩, h5⟩, h6⟩, h7⟩ := h1
  refine ⟨p, hp, by simpa using h1, ?_, ?_, ?_, ?_, ?_, ?_⟩
  ·intro cs b e; rw [e] at h2; simp [plainOp] at h2
  ·intro t ht
   rw [Array.all_eq_true'] at h4
   have h8 := h4 (.tmp t) ht
   simp only [Bool.or_eq_true] at h8
   rcases h8 with h8 | h8
   ·exact Or.inl (by simpa using h8)
   ·refine Or.inr fun j hj hd => ?_
    have h9 := List.all_eq_true.1 h8 j (List.mem_range.2 hj)
    simp only [Bool.or_eq_true, decide_eq_true_eq] at h9
    rcases h9 with h9 | h9
    ·exact absurd hd h9
    ·simpa using h9
  ·intro j hj hne
   have h8 := List.all_eq_true.1 h5 j (List.mem_range.2 hj)
   simp only [Bool.or_eq_true, decide_eq_true_eq] at h8
   rcases h8 with (h8 | h8) | h8
   ·exact absurd h8 hne
   ·exact Or.inl h8
   ·exact Or.inr h8
  ·intro k hk
   have h8 := List.all_eq_true.1 h6 k hk
   cases he : E[k]? with
   | none => rw [he] at h8; cases h8
   | some e =>
    rw [he] at h8
    simp only [Bool.or_eq_true, List.any_eq_true] at h8
    refine ⟨e, rfl, ?_⟩
    rcases h8 with h8 | ⟨j, h8, h9⟩
    ·exact Or.inl (by simpa using h8)
    ·exact Or.inr ⟨j, h8, by simpa using h9⟩
  ·intro hn e he
   rw [hn] at h7
   simpa using List.all_eq_true.1 h7 e he
  ·intro k hk
   rw [hk] at h7
   simp only at h7
   cases he : E[k]? with
   | none => rw [he] at h7; cases h7
   | some e => rw [he] at h7; exact ⟨e, rfl, by simpa using h7⟩
theorem eg_eff {N f z k : Nat} {E : List (Nat × Nat)} {plan : List (Option Nat × List Nat)} {e : Nat × Nat} (h : egB ops N f z E plan = true) (he : E[k]? = some e) : e.1 < N ∧ (dstOf ops e.1 = some e.2 ∧ e.2 < z ∨ dstOf ops e.1 = none ∧ z ≤ e.2) ∧ (plan[e.1]?).map (·.1) = some (some k) := by
 unfold egB at h
 rw [Bool.and_eq_true] at h
 have hk : k < E.length := (List.getElem?_eq_some_iff.1 he).1
 have h1 := List.all_eq_true.1 h.2 k (List.mem_range.2 hk)
 rw [he] at h1
 simp only [Bool.and_eq_true, Bool.or_eq_true, decide_eq_true_eq] at h1
 exact ⟨h1.1.1, h1.1.2, h1.2⟩
def EfG (P : Program) (St : List Bool → List Value → World → Prop) (AF : Act) (E : List (Nat × Nat)) (k : Nat) (need : List Nat) (o : Oper) : Prop :=
 (∃ d, o.dst = some d ∧ ∀ bs vs W, bs.length = E.length → vs.length = E.length → (∀ k ∈ need, bs.getD k false = true) → bs.getD k false = false → St bs vs W →
  ∀ (K : Act → World → Prop) (Q : Exit → Act → World → Prop), (∀ v W', St (bs.set k true) (vs.set k v) W' → K ((putE AF E vs).put (some d) v) W') → o.wp P (putE AF E vs) W K Q) ∨
 (o.dst = none ∧ ∀ bs vs W, bs.length = E.length → vs.length = E.length → (∀ k ∈ need, bs.getD k false = true) → bs.getD k false = false → St bs vs W →
  ∀ (K : Act → World → Prop) (Q : Exit → Act → World → Prop), (∀ W', St (bs.set k true) vs W' → K (putE AF E vs) W') → o.wp P (putE AF E vs) W K Q)
theorem upon_congr0 {o : Oper} {x y : Act} {C : World → Prop} {r : Result Next} (hd : o.dst = none)
  (h : o.upon P y (fun a' w' => a' = y ∧ C w') (fun _ _ _ => False) r) : o.upon P x (fun a' w' => a' = x ∧ C w') Q r := by
 cases r with
 | ok n w' =>
  cases n with
  | value v =>
   simp only [Oper.upon, hd] at h ⊢
   exact ⟨rfl, h.2⟩
  | skip =>
   simp only [Oper.upon, hd] at h ⊢
   exact ⟨rfl, h.2⟩
  | «defer» df =>
   simp only [Oper.upon, hd] at h
   have := congrArg Act.defers h.1
   simp [Act.put] at this
  | enter f args =>
   simp only [Oper.upon, hd] at h ⊢
   refine h.mono fun e w'' he => ?_
   cases e with
   | returned v => exact ⟨rfl, he.2⟩
   | panicked c => exact absurd he id
   | outgrown => obtain ⟨_, _, hf⟩ := he; exact absurd hf id
  | row rw_ args =>
   simp only [Oper.upon, hd] at h ⊢
   refine h.mono fun v w'' he => ?_
   exact ⟨rfl, he.2⟩
  | _ => exact absurd h id
 | halt hh w' =>
  cases hh <;> exact absurd h id
theorem shut_ancG {l : Array Bool} (hS : Shut ops l) {i f : Nat} {e : Nat} (hw : ∀ j ∈ waits ops i, l.getD j false = true) (h : e ∈ waits ops i ∨ ∃ j ∈ waits ops i, e ∈ ancs ops f j) : l.getD e false = true := by
 rcases h with h | ⟨j, hj, h⟩
 ·exact hw e h
 ·exact hS.anc f j (hw j hj) e h
theorem region_all {id : Nat} {a : Act} {w : World} (N f z : Nat) (E : List (Nat × Nat)) (plan : List (Option Nat × List Nat)) (vals : List (Nat × Value)) (St : List Bool → List Value → World → Prop) (hm : P.follows .mixedOrders = true) (he : early ops = true) (hs0 : ops.size = N) (hz : a.tmps.size = z)
  (hH : egB ops N f z E plan = true)
  (hds : vals.map (fun p => some p.1) = ((List.range N).filter fun i => E.all fun e => decide (e.1 ≠ i)).map (dstOf ops))
  (h0 : ∀ vs, vs.length = E.length → St (E.map fun _ => false) vs w.drew) (each : AllE (RdE P St (updAll a vals) E) (EfG P St (updAll a vals) E) plan ops.toList)
  (done : ∀ vs W, vs.length = E.length → St (E.map fun _ => true) vs W → Q .normal (putE (updAll a vals) E vs) W) :
  (Code.region id ops true).wp P Q a w := by
 have hidx : ∀ j, (E.all fun e => decide (e.1 ≠ j)) = true ↔ ∀ e ∈ E, e.1 ≠ j := fun j => by simp
 have hsame : ∀ t, (∀ j, j < N → (∀ e ∈ E, e.1 ≠ j) → dstOf ops j ≠ some t) → (updAll a vals).tmps[t]? = a.tmps[t]? := fun t ht => updAll_same _ _ _ fun p hp e => by
  have h1 : some p.1 ∈ vals.map (fun p => some p.1) := List.mem_map.2 ⟨p, hp, rfl⟩
  rw [hds] at h1
  obtain ⟨j, hj, hjd⟩ := List.mem_map.1 h1
  obtain ⟨hj1, hj2⟩ := List.mem_filter.1 hj
  exact ht j (List.mem_range.1 hj1) ((hidx j).1 hj2) (by rw [hjd, e])
 have hdf : (updAll a vals).defers = a.defers := updAll_defers _ _
 have hsz : (updAll a vals).tmps.size = a.tmps.size := updAll_size _ _
 have hob : ∀ (i : Nat) (o : Oper) (p : Option Nat × List Nat), ops[i]? = some o → plan[i]? = some p → (match p.1 with | none => RdE P St (updAll a vals) E p.2 o | some k => EfG P St (updAll a vals) E k p.2 o) := fun i o p ho hp => each.at_ i o p (by
  rw [Array.getElem?_toList]; exact ho) hp
 clear each
 generalize updAll a vals = AF at *
 refine region_inv hm he (fun l x W => l.size = ops.size ∧ Shut ops l ∧ x.defers = a.defers ∧ x.tmps.size = a.tmps.size ∧
  (∀ j, j < N → (∀ e ∈ E, e.1 ≠ j) → l.getD j false = true → ∀ t, dstOf ops j = some t → x.tmps[t]? = AF.tmps[t]?) ∧
  (∀ t, (∀ j, j < N → dstOf ops j = some t → l.getD j false = false) → x.tmps[t]? = a.tmps[t]?) ∧ St (E.map fun e => l.getD e.1 false) (E.map fun e => x.tmps.getD e.2 undef) W) ?_ (fun l a w h => h.1) ?_ ?_
 ·refine ⟨by simp, ?_, rfl, rfl, fun j hj _ h => ?_, fun _ _ => rfl, ?_⟩
  ·intro i hi
   rw [Array.getD_eq_getD_getElem?] at hi
   by_cases h : i < ops.size <;> simp [h] at hi
  ·rw [Array.getD_eq_getD_getElem?] at h
   simp [hs0, hj] at h
  ·have e : ∀ k, (Array.replicate ops.size false).getD k false = false := by
    intro k
    rw [Array.getD_eq_getD_getElem?]
    by_cases h : k < ops.size <;> simp [h]
   simp only [e]
   exact h0 _ (by simp)
 ·rintro i o ho l x W ⟨hs, hS, x1, x2, x3, x4, x5⟩ hl hd
  have hio : i < ops.size := (Array.getElem?_eq_some_iff.1 ho).1
  have hil : i < l.size := by rw [hs]; exact hio
  have hi : i < N := by omega
  have hw := waits_ok ho hd
  have hS2 := hS.set hil hw
  have hs2 : (l.setIfInBounds i true).size = ops.size := by simpa using hs
  have hFx := putE_get AF x (by rw [hsz, x2]) E
  obtain ⟨p, hC⟩ := eg_at hH hi ho
  have hev : ∀ y ∈ o.op.operands, x.eval y = (putE AF E (E.map fun e => x.tmps.getD e.2 undef)).eval y := by
   intro y hy
   refine eval_same fun t ht => ?_
   subst ht
   rw [hFx]
   by_cases c1 : t ∈ E.map (·.2)
   ·rw [if_pos c1]
   ·rw [if_neg c1]
    rcases hC.looks t hy with c2 | c2
    ·exact absurd c2 c1
    by_cases hc : ∃ j, j < N ∧ dstOf ops j = some t
    ·obtain ⟨j, hj, hjt⟩ := hc
     refine x3 j hj (fun e heE hej => c1 ?_) (hw j (c2 j hj hjt)) t hjt
     obtain ⟨k, hk⟩ := List.getElem?_of_mem heE
     rcases (eg_eff hH hk).2.1 with ⟨q, -⟩ | ⟨q, -⟩
     ·rw [hej, hjt] at q
      exact List.mem_map.2 ⟨e, heE, (Option.some.inj q).symm⟩
     ·rw [hej, hjt] at q
      cases q
    ·have hno : ∀ j, j < N → dstOf ops j ≠ some t := fun j hj e => hc ⟨j, hj, e⟩
     rw [x4 t (fun j hj e => absurd e (hno j hj)), hsame t (fun j hj _ => hno j hj)]
  have hex := execOp_congr o hC.sel hev
  have hneed : ∀ k ∈ p.2, (E.map fun e => l.getD e.1 false).getD k false = true := by
   intro k hk
   obtain ⟨e, he1, he2⟩ := hC.need k hk
   rw [List.getD_eq_getElem?_getD, List.getElem?_map, he1]
   exact shut_ancG hS hw he2
  have hO := hob i o p ho hC.plan
  cases hdo : o.dst with
  | none =>
   have hdi : dstOf ops i = none := by unfold dstOf; rw [ho]; exact hdo
   obtain ⟨pk, nd⟩ := p
   cases pk with
   | none =>
    obtain ⟨d', v, g1, -⟩ := hO
    rw [hdo] at g1
    cases g1
   | some k =>
    rcases hO with ⟨d', g1, -⟩ | ⟨-, g3⟩
    ·rw [hdo] at g1
     cases g1
    obtain ⟨ek, hk, hek⟩ := hC.yes k rfl
    have qk := eg_eff hH hk
    have hbk : (E.map fun e => l.getD e.1 false).getD k false = false := by
     rw [List.getD_eq_getElem?_getD, List.getElem?_map, hk]
     show l.getD ek.1 false = false
     rw [hek]
     exact getD_tf hl
    have hkl : k < E.length := (List.getElem?_eq_some_iff.1 hk).1
    have hm : ∀ m e, E[m]? = some e → e.1 = i → m = k := by
     intro m e hme h
     have q := (eg_eff hH hme).2.2
     have q' := qk.2.2
     rw [h] at q
     rw [hek, q] at q'
     exact Option.some.inj (Option.some.inj q')
    have q1 : (E.map fun e => (l.setIfInBounds i true).getD e.1 false) = (E.map fun e => l.getD e.1 false).set k true := by
     refine List.ext_getElem? fun m => ?_
     rw [List.getElem?_set, List.getElem?_map, List.getElem?_map]
     cases hE : E[m]? with
     | none =>
      have : E.length ≤ m := List.getElem?_eq_none_iff.1 hE
      rw [if_neg (by omega)]; rfl
     | some e =>
      simp only [Option.map_some]
      rw [getD_set1 hil]
      by_cases c : k = m
      ·subst c
       rw [hk] at hE
       obtain rfl := Option.some.inj hE
       rw [if_pos hek.symm, if_pos rfl, if_pos (by simpa using hkl)]
      ·rw [if_neg (fun h => c (hm m e hE h.symm).symm), if_neg c]
    unfold wpOp
    rw [ho]
    simp only [Region.wanted, hC.guard, if_true]
    refine Or.inl ?_
    have h1 := g3 _ _ W (by simp) (by simp) hneed hbk x5 (fun a' w' => a' = putE AF E (E.map fun e => x.tmps.getD e.2 undef) ∧ St ((E.map fun e => l.getD e.1 false).set k true) (E.map fun e => x.tmps.getD e.2 undef) w') (fun _ _ _ => False) (fun W' h => ⟨rfl, h⟩)
    have h2 : o.wp P x W (fun a' w' => a' = x ∧ St ((E.map fun e => l.getD e.1 false).set k true) (E.map fun e => x.tmps.getD e.2 undef) w') Q := by
     unfold Oper.wp at h1 ⊢
     rw [hex]
     exact upon_congr0 hdo h1
    refine Oper.wp_mono ?_ h2
    rintro a' w' ⟨rfl, hv⟩
    refine ⟨hs2, hS2, x1, x2, ?_, ?_, ?_⟩
    ·intro j hj m1 hjl t hjt
     have hji : j ≠ i := fun c => by subst c; rw [hdi] at hjt; cases hjt
     rw [getD_set1 hil, if_neg (fun c => hji c.symm)] at hjl
     exact x3 j hj m1 hjl t hjt
    ·intro t ht
     refine x4 t fun j hj hjt => ?_
     have := ht j hj hjt
     rw [getD_set1 hil] at this
     split at this
     ·cases this
     ·exact this
    ·rw [q1]
     exact hv
  | some d =>
   have hd1 := hdo
   have hdi : dstOf ops i = some d := by unfold dstOf; rw [ho]; exact hd1
   have hput : d < a.tmps.size → ∀ (C : Value → World → Prop), (∀ (K : Act → World → Prop) (Q : Exit → Act → World → Prop), (∀ v W', C v W' → K ((putE AF E (E.map fun e => x.tmps.getD e.2 undef)).put (some d) v) W') → o.wp P (putE AF E (E.map fun e => x.tmps.getD e.2 undef)) W K Q) → wpOp P ops Q i (fun a' w' => ∃ v, a' = x.put (some d) v ∧ C v w') x W := by
    intro hdlt C hC2
    unfold wpOp
    rw [ho]
    simp only [Region.wanted, hC.guard, if_true]
    refine Or.inl ?_
    have h1 := hC2 (fun a' w' => ∃ v, a' = (putE AF E (E.map fun e => x.tmps.getD e.2 undef)).put (some d) v ∧ C v w') (fun _ _ _ => False) (fun v W' h => ⟨v, rfl, h⟩)
    unfold Oper.wp at h1 ⊢
    rw [hex]
    exact upon_congr hd1 (by rw [putE_size, hsz]; exact hdlt) h1
   have hgd : d < a.tmps.size → ∀ (v : Value) (t : Nat), (x.put (some d) v).tmps.getD t undef = if d = t then v else x.tmps.getD t undef := by
    intro hdlt v t
    rw [Array.getD_eq_getD_getElem?, put_at]
    by_cases e : d = t
    ·rw [if_pos e, if_pos e, if_pos (by rw [x2]; exact hdlt)]; rfl
    ·rw [if_neg e, if_neg e, Array.getD_eq_getD_getElem?]
   have hother : d < a.tmps.size → ∀ e ∈ E, e.1 ≠ i → d ≠ e.2 := by
    intro hdlt e heE hne c
    obtain ⟨k, hk⟩ := List.getElem?_of_mem heE
    have q := eg_eff hH hk
    rcases q.2.1 with ⟨q1, -⟩ | ⟨-, q2⟩
    ·rcases hC.one e.1 q.1 hne with h | h
     ·rw [q1] at h; cases h
     ·exact h (by rw [q1, hdi, c])
    ·exact absurd q2 (by rw [← c, ← hz]; exact Nat.not_le.2 hdlt)
   have hfr : d < a.tmps.size → ∀ v W', (p.1 = none → AF.tmps[d]? = some v) → St (E.map fun e => (l.setIfInBounds i true).getD e.1 false) (E.map fun e => (x.put (some d) v).tmps.getD e.2 undef) W' →
     ((l.setIfInBounds i true).size = ops.size ∧ Shut ops (l.setIfInBounds i true) ∧ (x.put (some d) v).defers = a.defers ∧ (x.put (some d) v).tmps.size = a.tmps.size ∧
  (∀ j, j < N → (∀ e ∈ E, e.1 ≠ j) → (l.setIfInBounds i true).getD j false = true → ∀ t, dstOf ops j = some t → (x.put (some d) v).tmps[t]? = AF.tmps[t]?) ∧
  (∀ t, (∀ j, j < N → dstOf ops j = some t → (l.setIfInBounds i true).getD j false = false) → (x.put (some d) v).tmps[t]? = a.tmps[t]?) ∧ St (E.map fun e => (l.setIfInBounds i true).getD e.1 false) (E.map fun e => (x.put (some d) v).tmps.getD e.2 undef) W') := by
    intro hdlt v W' hv hSt
    have hlt : d < x.tmps.size := by rw [x2]; exact hdlt
    refine ⟨hs2, hS2, x1, by simpa [Act.put] using x2, ?_, ?_, hSt⟩
    ·intro j hj m1 hjl t hjt
     rw [put_at]
     by_cases e : d = t
     ·subst e
      rw [if_pos rfl, if_pos hlt]
      have hji : j = i := Classical.byContradiction fun c => by
       rcases hC.one j hj c with h | h
       ·rw [hjt] at h; cases h
       ·exact h (by rw [hjt, hdi])
      subst hji
      refine (hv ?_).symm
      cases hp : p.1 with
      | none => rfl
      | some k => obtain ⟨e, he1, he2⟩ := hC.yes k hp; exact absurd he2 (m1 e (List.mem_of_getElem? he1))
     ·rw [if_neg e]
      have hji : j ≠ i := fun c => by subst c; rw [hdi] at hjt; exact e (Option.some.inj hjt)
      rw [getD_set1 hil, if_neg (fun c => hji c.symm)] at hjl
      exact x3 j hj m1 hjl t hjt
    ·intro t ht
     rw [put_at]
     have hdt : d ≠ t := fun c => by
      subst c
      have := ht i hi hdi
      rw [getD_set1 hil, if_pos rfl] at this
      cases this
     rw [if_neg hdt]
     refine x4 t fun j hj hjt => ?_
     have := ht j hj hjt
     rw [getD_set1 hil] at this
     split at this
     ·cases this
     ·exact this
   obtain ⟨pk, nd⟩ := p
   cases pk with
   | none =>
    obtain ⟨d', v, g1, g2, g3⟩ := hO
    rw [hd1] at g1
    obtain rfl : d = d' := Option.some.inj g1
    have hdlt : d < a.tmps.size := by
     have := (Array.getElem?_eq_some_iff.1 g2).1
     rw [hsz] at this
     exact this
    have hE := hC.no rfl
    refine wpOp_mono ?_ (hput hdlt (fun v' W' => v' = v ∧ St (E.map fun e => l.getD e.1 false) (E.map fun e => x.tmps.getD e.2 undef) W') (fun K Q hK => g3 _ _ W (by simp) (by simp) hneed x5 K Q (fun W' h => hK v W' ⟨rfl, h⟩)))
    rintro a' w' ⟨v', rfl, rfl, hv⟩
    refine hfr hdlt v' w' (fun _ => g2) ?_
    have q1 : (E.map fun e => (l.setIfInBounds i true).getD e.1 false) = E.map fun e => l.getD e.1 false := List.map_congr_left fun e he => by
     rw [getD_set1 hil, if_neg (fun c => hE e he c.symm)]
    have q2 : (E.map fun e => (x.put (some d) v').tmps.getD e.2 undef) = E.map fun e => x.tmps.getD e.2 undef := List.map_congr_left fun e he => by
     rw [hgd hdlt, if_neg (hother hdlt e he (hE e he))]
    rw [q1, q2]
    exact hv
   | some k =>
    rcases hO with ⟨d', g1, g3⟩ | ⟨g1, -⟩
    rotate_left
    ·rw [hd1] at g1; cases g1
    rw [hd1] at g1
    obtain rfl : d = d' := Option.some.inj g1
    obtain ⟨ek, hk, hek⟩ := hC.yes k rfl
    have qk := eg_eff hH hk
    have hq : d = ek.2 ∧ ek.2 < z := by
     rcases qk.2.1 with ⟨q1, q2⟩ | ⟨q1, -⟩
     ·rw [hek, hdi] at q1
      exact ⟨Option.some.inj q1, q2⟩
     ·rw [hek, hdi] at q1
      cases q1
    have hde := hq.1
    have hdlt : d < a.tmps.size := by rw [hde, hz]; exact hq.2
    have hbk : (E.map fun e => l.getD e.1 false).getD k false = false := by
     rw [List.getD_eq_getElem?_getD, List.getElem?_map, hk]
     show l.getD ek.1 false = false
     rw [hek]
     exact getD_tf hl
    refine wpOp_mono ?_ (hput hdlt (fun v' W' => St ((E.map fun e => l.getD e.1 false).set k true) ((E.map fun e => x.tmps.getD e.2 undef).set k v') W') (fun K Q hK => g3 _ _ W (by simp) (by simp) hneed hbk x5 K Q hK))
    rintro a' w' ⟨v', rfl, hv⟩
    refine hfr hdlt v' w' (fun c => by cases c) ?_
    have hkl : k < E.length := (List.getElem?_eq_some_iff.1 hk).1
    have hm : ∀ m e, E[m]? = some e → e.1 = i → m = k := by
     intro m e hme h
     have q := (eg_eff hH hme).2.2
     have q' := qk.2.2
     rw [h] at q
     rw [hek, q] at q'
     exact Option.some.inj (Option.some.inj q')
    have q1 : (E.map fun e => (l.setIfInBounds i true).getD e.1 false) = (E.map fun e => l.getD e.1 false).set k true := by
     refine List.ext_getElem? fun m => ?_
     rw [List.getElem?_set, List.getElem?_map, List.getElem?_map]
     cases hE : E[m]? with
     | none =>
      have : E.length ≤ m := List.getElem?_eq_none_iff.1 hE
      rw [if_neg (by omega)]; rfl
     | some e =>
      simp only [Option.map_some]
      rw [getD_set1 hil]
      by_cases c : k = m
      ·subst c
       rw [hk] at hE
       obtain rfl := Option.some.inj hE
       rw [if_pos hek.symm, if_pos rfl, if_pos (by simpa using hkl)]
      ·rw [if_neg (fun h => c (hm m e hE h.symm).symm), if_neg c]
    have q2 : (E.map fun e => (x.put (some d) v').tmps.getD e.2 undef) = (E.map fun e => x.tmps.getD e.2 undef).set k v' := by
     refine List.ext_getElem? fun m => ?_
     rw [List.getElem?_set, List.getElem?_map, List.getElem?_map]
     cases hE : E[m]? with
     | none =>
      have : E.length ≤ m := List.getElem?_eq_none_iff.1 hE
      rw [if_neg (by omega)]; rfl
     | some e =>
      simp only [Option.map_some]
      rw [hgd hdlt]
      by_cases c : k = m
      ·subst c
       rw [hk] at hE
       obtain rfl := Option.some.inj hE
       rw [if_pos hde, if_pos rfl, if_pos (by simpa using hkl)]
      ·have hne : e.1 ≠ i := fun h => c (hm m e hE h).symm
       rw [if_neg (hother hdlt e (List.mem_of_getElem? hE) hne), if_neg c]
    rw [q1, q2]
    exact hv
 ·rintro l x W ⟨hs, hS, x1, x2, x3, x4, x5⟩ hall
  have hall' : ∀ j, j < N → l.getD j false = true := fun j hj => getD_tt (by omega) (hall j (by omega))
  have q1 : (E.map fun e => l.getD e.1 false) = E.map fun _ => true := List.map_congr_left fun e he => by
   obtain ⟨k, hk⟩ := List.getElem?_of_mem he
   exact hall' e.1 (eg_eff hH hk).1
  rw [q1] at x5
  have hFx := putE_get AF x (by rw [hsz, x2]) E
  have hx : x = putE AF E (E.map fun e => x.tmps.getD e.2 undef) := by
   refine act_ext (Array.ext_getElem? fun t => ?_) (by rw [putE_defers, hdf, x1])
   rw [hFx]
   by_cases c1 : t ∈ E.map (·.2)
   ·rw [if_pos c1]
   ·rw [if_neg c1]
    by_cases hc : ∃ j, j < N ∧ dstOf ops j = some t
    ·obtain ⟨j, hj, hjt⟩ := hc
     refine x3 j hj (fun e heE hej => c1 ?_) (hall' j hj) t hjt
     obtain ⟨k, hk⟩ := List.getElem?_of_mem heE
     rcases (eg_eff hH hk).2.1 with ⟨q, -⟩ | ⟨q, -⟩
     ·rw [hej, hjt] at q
      exact List.mem_map.2 ⟨e, heE, (Option.some.inj q).symm⟩
     ·rw [hej, hjt] at q
      cases q
    ·have hno : ∀ j, j < N → dstOf ops j ≠ some t := fun j hj e => hc ⟨j, hj, e⟩
     rw [x4 t (fun j hj e => absurd e (hno j hj)), hsame t (fun j hj _ => hno j hj)]
  have ht := done _ W (by simp) x5
  rw [← hx] at ht
  exact ht
end
end Go.Proofs.YtmpilgkfbibhlaaGreatDoor
