/-
  A region that draws its order: operations whose values are known, any number of others (calls, allocations, appends, stores), none of which need be the last one.
-/
import Derived.Test.YtkldlmbccdfjdaaG7Boxes
import Derived.Test.YtkldlmbccdfjdaaG4Boxes
import Derived.Test.YtkldlmbccdfjdaaG6Boxes
set_option linter.unusedSimpArgs false
set_option linter.unusedVariables false
namespace Go.Proofs.Ytkldlmbccdfjdaa
open Go.RowKit

section
variable {P : Program} {ops : Array Oper} {Q : Exit → Act → World → Prop}

/-- What is asked of a plan: for each operation whether it is an effect (and which), and the effects that are known to be behind it. -/
def egB (ops : Array Oper) (N f z : Nat) (E : List (Nat × Nat)) (plan : List (Option Nat × List Nat)) : Bool :=
  ((List.range N).all fun i => match ops[i]?, plan[i]? with
  | some o, some p => o.guard.isNone && plainOp o.op && (o.op.operands.all fun x => match x with
      | .tmp t => (E.map (·.2)).contains t || (List.range N).all fun j => decide (dstOf ops j ≠ some t) || (waits ops i).contains j
      | _ => true) && ((List.range N).all fun j => decide (j = i) || decide (dstOf ops j = none) || decide (dstOf ops j ≠ dstOf ops i)) &&
      (p.2.all fun k => match E[k]? with | some e => (waits ops i).contains e.1 || (waits ops i).any fun j => (ancs ops f j).contains e.1 | none => false) &&
      (match p.1 with | none => E.all fun e => decide (e.1 ≠ i) | some k => (match E[k]? with | some e => decide (e.1 = i) | none => false))
  | _, _ => false) &&
  ((List.range E.length).all fun k => match E[k]? with | some e => decide (e.1 < N) && (decide (dstOf ops e.1 = some e.2) && decide (e.2 < z) || decide (dstOf ops e.1 = none) && decide (z ≤ e.2)) && decide ((plan[e.1]?).map (·.1) = some (some k)) | none => false)
structure EgAt (ops : Array Oper) (N f : Nat) (E : List (Nat × Nat)) (plan : List (Option Nat × List Nat)) (i : Nat) (o : Oper) (p : Option Nat × List Nat) : Prop where
  plan : plan[i]? = some p
  guard : o.guard = none
  sel : ∀ cs b, o.op ≠ .select cs b
  looks : ∀ t, Operand.tmp t ∈ o.op.operands → t ∈ E.map (·.2) ∨ ∀ j, j < N → dstOf ops j = some t → j ∈ waits ops i
  one : ∀ j, j < N → j ≠ i → dstOf ops j = none ∨ dstOf ops j ≠ dstOf ops i
  need : ∀ k ∈ p.2, ∃ e, E[k]? = some e ∧ (e.1 ∈ waits ops i ∨ ∃ j ∈ waits ops i, e.1 ∈ ancs ops f j)
  no : p.1 = none → ∀ e ∈ E, e.1 ≠ i
  yes : ∀ k, p.1 = some k → ∃ e, E[k]? = some e ∧ e.1 = i
theorem eg_at {N f z i : Nat} {E : List (Nat × Nat)} {plan : List (Option Nat × List Nat)} {o : Oper} (h : egB ops N f z E plan = true) (hi : i < N) (ho : ops[i]? = some o) : ∃ p, EgAt ops N f E plan i o p := by
  unfold egB at h
  rw [Bool.and_eq_true] at h
  have h1 := List.all_eq_true.1 h.1 i (List.mem_range.2 hi)
  rw [ho] at h1
  cases hp : plan[i]? with
  | none => rw [hp] at h1; cases h1
  | some p =>
    rw [hp] at h1
    simp only [Bool.and_eq_true] at h1
    obtain ⟨⟨⟨⟨⟨h1, h2⟩, h4⟩, h5⟩, h6⟩, h7⟩ := h1
    refine ⟨p, hp, by simpa using h1, ?_, ?_, ?_, ?_, ?_, ?_⟩
    · intro cs b e; rw [e] at h2; simp [plainOp] at h2
    · intro t ht
      rw [Array.all_eq_true'] at h4
      have h8 := h4 (.tmp t) ht
      simp only [Bool.or_eq_true] at h8
      rcases h8 with h8 | h8
      · exact Or.inl (by simpa using h8)
      · refine Or.inr fun j hj hd => ?_
        have h9 := List.all_eq_true.1 h8 j (List.mem_range.2 hj)
        simp only [Bool.or_eq_true, decide_eq_true_eq] at h9
        rcases h9 with h9 | h9
        · exact absurd hd h9
        · simpa using h9
    · intro j hj hne
      have h8 := List.all_eq_true.1 h5 j (List.mem_range.2 hj)
      simp only [Bool.or_eq_true, decide_eq_true_eq] at h8
      rcases h8 with (h8 | h8) | h8
      · exact absurd h8 hne
      · exact Or.inl h8
      · exact Or.inr h8
    · intro k hk
      have h8 := List.all_eq_true.1 h6 k hk
      cases he : E[k]? with
      | none => rw [he] at h8; cases h8
      | some e =>
        rw [he] at h8
        simp only [Bool.or_eq_true, List.any_eq_true] at h8
        refine ⟨e, rfl, ?_⟩
        rcases h8 with h8 | ⟨j, h8, h9⟩
        · exact Or.inl (by simpa using h8)
        · exact Or.inr ⟨j, h8, by simpa using h9⟩
    · intro hn e he
      rw [hn] at h7
      simpa using List.all_eq_true.1 h7 e he
    · intro k hk
      rw [hk] at h7
      simp only at h7
      cases he : E[k]? with
      | none => rw [he] at h7; cases h7
      | some e => rw [he] at h7; exact ⟨e, rfl, by simpa using h7⟩
theorem eg_eff {N f z k : Nat} {E : List (Nat × Nat)} {plan : List (Option Nat × List Nat)} {e : Nat × Nat} (h : egB ops N f z E plan = true) (he : E[k]? = some e) : e.1 < N ∧ (dstOf ops e.1 = some e.2 ∧ e.2 < z ∨ dstOf ops e.1 = none ∧ z ≤ e.2) ∧ (plan[e.1]?).map (·.1) = some (some k) := by
  unfold egB at h
  rw [Bool.and_eq_true] at h
  have hk : k < E.length := (List.getElem?_eq_some_iff.1 he).1
  have h1 := List.all_eq_true.1 h.2 k (List.mem_range.2 hk)
  rw [he] at h1
  simp only [Bool.and_eq_true, Bool.or_eq_true, decide_eq_true_eq] at h1
  exact ⟨h1.1.1, h1.1.2, h1.2⟩

/-- What is asked of an effect, with a slot or without one. -/
def EfG (P : Program) (St : List Bool → List Value → World → Prop) (AF : Act) (E : List (Nat × Nat)) (k : Nat) (need : List Nat) (o : Oper) : Prop :=
  (∃ d, o.dst = some d ∧ ∀ bs vs W, bs.length = E.length → vs.length = E.length → (∀ k ∈ need, bs.getD k false = true) → bs.getD k false = false → St bs vs W →
    ∀ (K : Act → World → Prop) (Q : Exit → Act → World → Prop), (∀ v W', St (bs.set k true) (vs.set k v) W' → K ((putE AF E vs).put (some d) v) W') → o.wp P (putE AF E vs) W K Q) ∨
  (o.dst = none ∧ ∀ bs vs W, bs.length = E.length → vs.length = E.length → (∀ k ∈ need, bs.getD k false = true) → bs.getD k false = false → St bs vs W →
    ∀ (K : Act → World → Prop) (Q : Exit → Act → World → Prop), (∀ W', St (bs.set k true) vs W' → K (putE AF E vs) W') → o.wp P (putE AF E vs) W K Q)
theorem upon_congr0 {o : Oper} {x y : Act} {C : World → Prop} {r : Result Next} (hd : o.dst = none)
    (h : o.upon P y (fun a' w' => a' = y ∧ C w') (fun _ _ _ => False) r) : o.upon P x (fun a' w' => a' = x ∧ C w') Q r := by
  cases r with
  | ok n w' =>
    cases n with
    | value v =>
      simp only [Oper.upon, hd] at h ⊢
      exact ⟨rfl, h.2⟩
    | skip =>
      simp only [Oper.upon, hd] at h ⊢
      exact ⟨rfl, h.2⟩
    | «defer» df =>
      simp only [Oper.upon, hd] at h
      have := congrArg Act.defers h.1
      simp [Act.put] at this
    | enter f args =>
      simp only [Oper.upon, hd] at h ⊢
      refine h.mono fun e w'' he => ?_
      cases e with
      | returned v => exact ⟨rfl, he.2⟩
      | panicked c => exact absurd he id
      | outgrown => obtain ⟨_, _, hf⟩ := he; exact absurd hf id
    | row rw_ args =>
      simp only [Oper.upon, hd] at h ⊢
      refine h.mono fun v w'' he => ?_
      exact ⟨rfl, he.2⟩
    | _ => exact absurd h id
  | halt hh w' =>
    cases hh <;> exact absurd h id
theorem shut_ancG {l : Array Bool} (hS : Shut ops l) {i f : Nat} {e : Nat} (hw : ∀ j ∈ waits ops i, l.getD j false = true) (h : e ∈ waits ops i ∨ ∃ j ∈ waits ops i, e ∈ ancs ops f j) : l.getD e false = true := by
  rcases h with h | ⟨j, hj, h⟩
  · exact hw e h
  · exact hS.anc f j (hw j hj) e h

/-- THE RULE. -/
theorem region_all {id : Nat} {a : Act} {w : World} (N f z : Nat) (E : List (Nat × Nat)) (plan : List (Option Nat × List Nat)) (vals : List (Nat × Value)) (St : List Bool → List Value → World → Prop) (hm : P.follows .mixedOrders = true) (he : early ops = true) (hs0 : ops.size = N) (hz : a.tmps.size = z)
    (hH : egB ops N f z E plan = true)
    (hds : vals.map (fun p => some p.1) = ((List.range N).filter fun i => E.all fun e => decide (e.1 ≠ i)).map (dstOf ops))
    (h0 : ∀ vs, vs.length = E.length → St (E.map fun _ => false) vs w.drew) (each : AllE (RdE P St (updAll a vals) E) (EfG P St (updAll a vals) E) plan ops.toList)
    (done : ∀ vs W, vs.length = E.length → St (E.map fun _ => true) vs W → Q .normal (putE (updAll a vals) E vs) W) :
    (Code.region id ops true).wp P Q a w := by
  have hidx : ∀ j, (E.all fun e => decide (e.1 ≠ j)) = true ↔ ∀ e ∈ E, e.1 ≠ j := fun j => by simp
  have hsame : ∀ t, (∀ j, j < N → (∀ e ∈ E, e.1 ≠ j) → dstOf ops j ≠ some t) → (updAll a vals).tmps[t]? = a.tmps[t]? := fun t ht => updAll_same _ _ _ fun p hp e => by
    have h1 : some p.1 ∈ vals.map (fun p => some p.1) := List.mem_map.2 ⟨p, hp, rfl⟩
    rw [hds] at h1
    obtain ⟨j, hj, hjd⟩ := List.mem_map.1 h1
    obtain ⟨hj1, hj2⟩ := List.mem_filter.1 hj
    exact ht j (List.mem_range.1 hj1) ((hidx j).1 hj2) (by rw [hjd, e])
  have hdf : (updAll a vals).defers = a.defers := updAll_defers _ _
  have hsz : (updAll a vals).tmps.size = a.tmps.size := updAll_size _ _
  have hob : ∀ (i : Nat) (o : Oper) (p : Option Nat × List Nat), ops[i]? = some o → plan[i]? = some p → (match p.1 with | none => RdE P St (updAll a vals) E p.2 o | some k => EfG P St (updAll a vals) E k p.2 o) := fun i o p ho hp => each.at_ i o p (by
    rw [Array.getElem?_toList]; exact ho) hp
  clear each
  generalize updAll a vals = AF at *
  refine region_inv hm he (fun l x W => l.size = ops.size ∧ Shut ops l ∧ x.defers = a.defers ∧ x.tmps.size = a.tmps.size ∧
    (∀ j, j < N → (∀ e ∈ E, e.1 ≠ j) → l.getD j false = true → ∀ t, dstOf ops j = some t → x.tmps[t]? = AF.tmps[t]?) ∧
    (∀ t, (∀ j, j < N → dstOf ops j = some t → l.getD j false = false) → x.tmps[t]? = a.tmps[t]?) ∧ St (E.map fun e => l.getD e.1 false) (E.map fun e => x.tmps.getD e.2 undef) W) ?_ (fun l a w h => h.1) ?_ ?_
  · refine ⟨by simp, ?_, rfl, rfl, fun j hj _ h => ?_, fun _ _ => rfl, ?_⟩
    · intro i hi
      rw [Array.getD_eq_getD_getElem?] at hi
      by_cases h : i < ops.size <;> simp [h] at hi
    · rw [Array.getD_eq_getD_getElem?] at h
      simp [hs0, hj] at h
    · have e : ∀ k, (Array.replicate ops.size false).getD k false = false := by
        intro k
        rw [Array.getD_eq_getD_getElem?]
        by_cases h : k < ops.size <;> simp [h]
      simp only [e]
      exact h0 _ (by simp)
  · rintro i o ho l x W ⟨hs, hS, x1, x2, x3, x4, x5⟩ hl hd
    have hio : i < ops.size := (Array.getElem?_eq_some_iff.1 ho).1
    have hil : i < l.size := by rw [hs]; exact hio
    have hi : i < N := by omega
    have hw := waits_ok ho hd
    have hS2 := hS.set hil hw
    have hs2 : (l.setIfInBounds i true).size = ops.size := by simpa using hs
    have hFx := putE_get AF x (by rw [hsz, x2]) E
    obtain ⟨p, hC⟩ := eg_at hH hi ho
    have hev : ∀ y ∈ o.op.operands, x.eval y = (putE AF E (E.map fun e => x.tmps.getD e.2 undef)).eval y := by
      intro y hy
      refine eval_same fun t ht => ?_
      subst ht
      rw [hFx]
      by_cases c1 : t ∈ E.map (·.2)
      · rw [if_pos c1]
      · rw [if_neg c1]
        rcases hC.looks t hy with c2 | c2
        · exact absurd c2 c1
        by_cases hc : ∃ j, j < N ∧ dstOf ops j = some t
        · obtain ⟨j, hj, hjt⟩ := hc
          refine x3 j hj (fun e heE hej => c1 ?_) (hw j (c2 j hj hjt)) t hjt
          obtain ⟨k, hk⟩ := List.getElem?_of_mem heE
          rcases (eg_eff hH hk).2.1 with ⟨q, -⟩ | ⟨q, -⟩
          · rw [hej, hjt] at q
            exact List.mem_map.2 ⟨e, heE, (Option.some.inj q).symm⟩
          · rw [hej, hjt] at q
            cases q
        · have hno : ∀ j, j < N → dstOf ops j ≠ some t := fun j hj e => hc ⟨j, hj, e⟩
          rw [x4 t (fun j hj e => absurd e (hno j hj)), hsame t (fun j hj _ => hno j hj)]
    have hex := execOp_congr o hC.sel hev
    have hneed : ∀ k ∈ p.2, (E.map fun e => l.getD e.1 false).getD k false = true := by
      intro k hk
      obtain ⟨e, he1, he2⟩ := hC.need k hk
      rw [List.getD_eq_getElem?_getD, List.getElem?_map, he1]
      exact shut_ancG hS hw he2
    have hO := hob i o p ho hC.plan
    cases hdo : o.dst with
    | none =>
      have hdi : dstOf ops i = none := by unfold dstOf; rw [ho]; exact hdo
      obtain ⟨pk, nd⟩ := p
      cases pk with
      | none =>
        obtain ⟨d', v, g1, -⟩ := hO
        rw [hdo] at g1
        cases g1
      | some k =>
        rcases hO with ⟨d', g1, -⟩ | ⟨-, g3⟩
        · rw [hdo] at g1
          cases g1
        obtain ⟨ek, hk, hek⟩ := hC.yes k rfl
        have qk := eg_eff hH hk
        have hbk : (E.map fun e => l.getD e.1 false).getD k false = false := by
          rw [List.getD_eq_getElem?_getD, List.getElem?_map, hk]
          show l.getD ek.1 false = false
          rw [hek]
          exact getD_tf hl
        have hkl : k < E.length := (List.getElem?_eq_some_iff.1 hk).1
        have hm : ∀ m e, E[m]? = some e → e.1 = i → m = k := by
          intro m e hme h
          have q := (eg_eff hH hme).2.2
          have q' := qk.2.2
          rw [h] at q
          rw [hek, q] at q'
          exact Option.some.inj (Option.some.inj q')
        have q1 : (E.map fun e => (l.setIfInBounds i true).getD e.1 false) = (E.map fun e => l.getD e.1 false).set k true := by
          refine List.ext_getElem? fun m => ?_
          rw [List.getElem?_set, List.getElem?_map, List.getElem?_map]
          cases hE : E[m]? with
          | none =>
            have : E.length ≤ m := List.getElem?_eq_none_iff.1 hE
            rw [if_neg (by omega)]; rfl
          | some e =>
            simp only [Option.map_some]
            rw [getD_set1 hil]
            by_cases c : k = m
            · subst c
              rw [hk] at hE
              obtain rfl := Option.some.inj hE
              rw [if_pos hek.symm, if_pos rfl, if_pos (by simpa using hkl)]
            · rw [if_neg (fun h => c (hm m e hE h.symm).symm), if_neg c]
        unfold wpOp
        rw [ho]
        simp only [Region.wanted, hC.guard, if_true]
        refine Or.inl ?_
        have h1 := g3 _ _ W (by simp) (by simp) hneed hbk x5 (fun a' w' => a' = putE AF E (E.map fun e => x.tmps.getD e.2 undef) ∧ St ((E.map fun e => l.getD e.1 false).set k true) (E.map fun e => x.tmps.getD e.2 undef) w') (fun _ _ _ => False) (fun W' h => ⟨rfl, h⟩)
        have h2 : o.wp P x W (fun a' w' => a' = x ∧ St ((E.map fun e => l.getD e.1 false).set k true) (E.map fun e => x.tmps.getD e.2 undef) w') Q := by
          unfold Oper.wp at h1 ⊢
          rw [hex]
          exact upon_congr0 hdo h1
        refine Oper.wp_mono ?_ h2
        rintro a' w' ⟨rfl, hv⟩
        refine ⟨hs2, hS2, x1, x2, ?_, ?_, ?_⟩
        · intro j hj m1 hjl t hjt
          have hji : j ≠ i := fun c => by subst c; rw [hdi] at hjt; cases hjt
          rw [getD_set1 hil, if_neg (fun c => hji c.symm)] at hjl
          exact x3 j hj m1 hjl t hjt
        · intro t ht
          refine x4 t fun j hj hjt => ?_
          have := ht j hj hjt
          rw [getD_set1 hil] at this
          split at this
          · cases this
          · exact this
        · rw [q1]
          exact hv
    | some d =>
      have hd1 := hdo
      have hdi : dstOf ops i = some d := by unfold dstOf; rw [ho]; exact hd1
      have hput : d < a.tmps.size → ∀ (C : Value → World → Prop), (∀ (K : Act → World → Prop) (Q : Exit → Act → World → Prop), (∀ v W', C v W' → K ((putE AF E (E.map fun e => x.tmps.getD e.2 undef)).put (some d) v) W') → o.wp P (putE AF E (E.map fun e => x.tmps.getD e.2 undef)) W K Q) → wpOp P ops Q i (fun a' w' => ∃ v, a' = x.put (some d) v ∧ C v w') x W := by
        intro hdlt C hC2
        unfold wpOp
        rw [ho]
        simp only [Region.wanted, hC.guard, if_true]
        refine Or.inl ?_
        have h1 := hC2 (fun a' w' => ∃ v, a' = (putE AF E (E.map fun e => x.tmps.getD e.2 undef)).put (some d) v ∧ C v w') (fun _ _ _ => False) (fun v W' h => ⟨v, rfl, h⟩)
        unfold Oper.wp at h1 ⊢
        rw [hex]
        exact upon_congr hd1 (by rw [putE_size, hsz]; exact hdlt) h1
      have hgd : d < a.tmps.size → ∀ (v : Value) (t : Nat), (x.put (some d) v).tmps.getD t undef = if d = t then v else x.tmps.getD t undef := by
        intro hdlt v t
        rw [Array.getD_eq_getD_getElem?, put_at]
        by_cases e : d = t
        · rw [if_pos e, if_pos e, if_pos (by rw [x2]; exact hdlt)]; rfl
        · rw [if_neg e, if_neg e, Array.getD_eq_getD_getElem?]
      have hother : d < a.tmps.size → ∀ e ∈ E, e.1 ≠ i → d ≠ e.2 := by
        intro hdlt e heE hne c
        obtain ⟨k, hk⟩ := List.getElem?_of_mem heE
        have q := eg_eff hH hk
        rcases q.2.1 with ⟨q1, -⟩ | ⟨-, q2⟩
        · rcases hC.one e.1 q.1 hne with h | h
          · rw [q1] at h; cases h
          · exact h (by rw [q1, hdi, c])
        · exact absurd q2 (by rw [← c, ← hz]; exact Nat.not_le.2 hdlt)
      have hfr : d < a.tmps.size → ∀ v W', (p.1 = none → AF.tmps[d]? = some v) → St (E.map fun e => (l.setIfInBounds i true).getD e.1 false) (E.map fun e => (x.put (some d) v).tmps.getD e.2 undef) W' →
          ((l.setIfInBounds i true).size = ops.size ∧ Shut ops (l.setIfInBounds i true) ∧ (x.put (some d) v).defers = a.defers ∧ (x.put (some d) v).tmps.size = a.tmps.size ∧
    (∀ j, j < N → (∀ e ∈ E, e.1 ≠ j) → (l.setIfInBounds i true).getD j false = true → ∀ t, dstOf ops j = some t → (x.put (some d) v).tmps[t]? = AF.tmps[t]?) ∧
    (∀ t, (∀ j, j < N → dstOf ops j = some t → (l.setIfInBounds i true).getD j false = false) → (x.put (some d) v).tmps[t]? = a.tmps[t]?) ∧ St (E.map fun e => (l.setIfInBounds i true).getD e.1 false) (E.map fun e => (x.put (some d) v).tmps.getD e.2 undef) W') := by
        intro hdlt v W' hv hSt
        have hlt : d < x.tmps.size := by rw [x2]; exact hdlt
        refine ⟨hs2, hS2, x1, by simpa [Act.put] using x2, ?_, ?_, hSt⟩
        · intro j hj m1 hjl t hjt
          rw [put_at]
          by_cases e : d = t
          · subst e
            rw [if_pos rfl, if_pos hlt]
            have hji : j = i := Classical.byContradiction fun c => by
              rcases hC.one j hj c with h | h
              · rw [hjt] at h; cases h
              · exact h (by rw [hjt, hdi])
            subst hji
            refine (hv ?_).symm
            cases hp : p.1 with
            | none => rfl
            | some k => obtain ⟨e, he1, he2⟩ := hC.yes k hp; exact absurd he2 (m1 e (List.mem_of_getElem? he1))
          · rw [if_neg e]
            have hji : j ≠ i := fun c => by subst c; rw [hdi] at hjt; exact e (Option.some.inj hjt)
            rw [getD_set1 hil, if_neg (fun c => hji c.symm)] at hjl
            exact x3 j hj m1 hjl t hjt
        · intro t ht
          rw [put_at]
          have hdt : d ≠ t := fun c => by
            subst c
            have := ht i hi hdi
            rw [getD_set1 hil, if_pos rfl] at this
            cases this
          rw [if_neg hdt]
          refine x4 t fun j hj hjt => ?_
          have := ht j hj hjt
          rw [getD_set1 hil] at this
          split at this
          · cases this
          · exact this
      obtain ⟨pk, nd⟩ := p
      cases pk with
      | none =>
        obtain ⟨d', v, g1, g2, g3⟩ := hO
        rw [hd1] at g1
        obtain rfl : d = d' := Option.some.inj g1
        have hdlt : d < a.tmps.size := by
          have := (Array.getElem?_eq_some_iff.1 g2).1
          rw [hsz] at this
          exact this
        have hE := hC.no rfl
        refine wpOp_mono ?_ (hput hdlt (fun v' W' => v' = v ∧ St (E.map fun e => l.getD e.1 false) (E.map fun e => x.tmps.getD e.2 undef) W') (fun K Q hK => g3 _ _ W (by simp) (by simp) hneed x5 K Q (fun W' h => hK v W' ⟨rfl, h⟩)))
        rintro a' w' ⟨v', rfl, rfl, hv⟩
        refine hfr hdlt v' w' (fun _ => g2) ?_
        have q1 : (E.map fun e => (l.setIfInBounds i true).getD e.1 false) = E.map fun e => l.getD e.1 false := List.map_congr_left fun e he => by
          rw [getD_set1 hil, if_neg (fun c => hE e he c.symm)]
        have q2 : (E.map fun e => (x.put (some d) v').tmps.getD e.2 undef) = E.map fun e => x.tmps.getD e.2 undef := List.map_congr_left fun e he => by
          rw [hgd hdlt, if_neg (hother hdlt e he (hE e he))]
        rw [q1, q2]
        exact hv
      | some k =>
        rcases hO with ⟨d', g1, g3⟩ | ⟨g1, -⟩
        rotate_left
        · rw [hd1] at g1; cases g1
        rw [hd1] at g1
        obtain rfl : d = d' := Option.some.inj g1
        obtain ⟨ek, hk, hek⟩ := hC.yes k rfl
        have qk := eg_eff hH hk
        have hq : d = ek.2 ∧ ek.2 < z := by
          rcases qk.2.1 with ⟨q1, q2⟩ | ⟨q1, -⟩
          · rw [hek, hdi] at q1
            exact ⟨Option.some.inj q1, q2⟩
          · rw [hek, hdi] at q1
            cases q1
        have hde := hq.1
        have hdlt : d < a.tmps.size := by rw [hde, hz]; exact hq.2
        have hbk : (E.map fun e => l.getD e.1 false).getD k false = false := by
          rw [List.getD_eq_getElem?_getD, List.getElem?_map, hk]
          show l.getD ek.1 false = false
          rw [hek]
          exact getD_tf hl
        refine wpOp_mono ?_ (hput hdlt (fun v' W' => St ((E.map fun e => l.getD e.1 false).set k true) ((E.map fun e => x.tmps.getD e.2 undef).set k v') W') (fun K Q hK => g3 _ _ W (by simp) (by simp) hneed hbk x5 K Q hK))
        rintro a' w' ⟨v', rfl, hv⟩
        refine hfr hdlt v' w' (fun c => by cases c) ?_
        have hkl : k < E.length := (List.getElem?_eq_some_iff.1 hk).1
        have hm : ∀ m e, E[m]? = some e → e.1 = i → m = k := by
          intro m e hme h
          have q := (eg_eff hH hme).2.2
          have q' := qk.2.2
          rw [h] at q
          rw [hek, q] at q'
          exact Option.some.inj (Option.some.inj q')
        have q1 : (E.map fun e => (l.setIfInBounds i true).getD e.1 false) = (E.map fun e => l.getD e.1 false).set k true := by
          refine List.ext_getElem? fun m => ?_
          rw [List.getElem?_set, List.getElem?_map, List.getElem?_map]
          cases hE : E[m]? with
          | none =>
            have : E.length ≤ m := List.getElem?_eq_none_iff.1 hE
            rw [if_neg (by omega)]; rfl
          | some e =>
            simp only [Option.map_some]
            rw [getD_set1 hil]
            by_cases c : k = m
            · subst c
              rw [hk] at hE
              obtain rfl := Option.some.inj hE
              rw [if_pos hek.symm, if_pos rfl, if_pos (by simpa using hkl)]
            · rw [if_neg (fun h => c (hm m e hE h.symm).symm), if_neg c]
        have q2 : (E.map fun e => (x.put (some d) v').tmps.getD e.2 undef) = (E.map fun e => x.tmps.getD e.2 undef).set k v' := by
          refine List.ext_getElem? fun m => ?_
          rw [List.getElem?_set, List.getElem?_map, List.getElem?_map]
          cases hE : E[m]? with
          | none =>
            have : E.length ≤ m := List.getElem?_eq_none_iff.1 hE
            rw [if_neg (by omega)]; rfl
          | some e =>
            simp only [Option.map_some]
            rw [hgd hdlt]
            by_cases c : k = m
            · subst c
              rw [hk] at hE
              obtain rfl := Option.some.inj hE
              rw [if_pos hde, if_pos rfl, if_pos (by simpa using hkl)]
            · have hne : e.1 ≠ i := fun h => c (hm m e hE h).symm
              rw [if_neg (hother hdlt e (List.mem_of_getElem? hE) hne), if_neg c]
        rw [q1, q2]
        exact hv
  · rintro l x W ⟨hs, hS, x1, x2, x3, x4, x5⟩ hall
    have hall' : ∀ j, j < N → l.getD j false = true := fun j hj => getD_tt (by omega) (hall j (by omega))
    have q1 : (E.map fun e => l.getD e.1 false) = E.map fun _ => true := List.map_congr_left fun e he => by
      obtain ⟨k, hk⟩ := List.getElem?_of_mem he
      exact hall' e.1 (eg_eff hH hk).1
    rw [q1] at x5
    have hFx := putE_get AF x (by rw [hsz, x2]) E
    have hx : x = putE AF E (E.map fun e => x.tmps.getD e.2 undef) := by
      refine act_ext (Array.ext_getElem? fun t => ?_) (by rw [putE_defers, hdf, x1])
      rw [hFx]
      by_cases c1 : t ∈ E.map (·.2)
      · rw [if_pos c1]
      · rw [if_neg c1]
        by_cases hc : ∃ j, j < N ∧ dstOf ops j = some t
        · obtain ⟨j, hj, hjt⟩ := hc
          refine x3 j hj (fun e heE hej => c1 ?_) (hall' j hj) t hjt
          obtain ⟨k, hk⟩ := List.getElem?_of_mem heE
          rcases (eg_eff hH hk).2.1 with ⟨q, -⟩ | ⟨q, -⟩
          · rw [hej, hjt] at q
            exact List.mem_map.2 ⟨e, heE, (Option.some.inj q).symm⟩
          · rw [hej, hjt] at q
            cases q
        · have hno : ∀ j, j < N → dstOf ops j ≠ some t := fun j hj e => hc ⟨j, hj, e⟩
          rw [x4 t (fun j hj e => absurd e (hno j hj)), hsame t (fun j hj _ => hno j hj)]
    have ht := done _ W (by simp) x5
    rw [← hx] at ht
    exact ht
end

end Go.Proofs.Ytkldlmbccdfjdaa

/-
  The reference's BoxMeet and BoxHull.
-/
set_option linter.unusedSimpArgs false
set_option linter.unusedVariables false
namespace Go.Proofs.Ytkldlmbccdfjdaa
open Go.RowKit
/-- A box that a region makes, and fills with a span. -/
structure BxQ (w0 : World) (z1 z2 : Int) (b d : Bool) (s : Value) (W : World) : Prop where
  bel : Below w0.heap.size w0 W
  bx : b = true → ∃ r, s = .pointer (some ⟨r, 0, none⟩) ∧ w0.heap.size ≤ r ∧ W.heap[r]? = some (.cells (if d = true then #[.int .i64 z1, .int .i64 z2] else #[.int .i64 0, .int .i64 0]) 40)
  st : d = true → b = true
section
variable {w0 W w2 : World} {z1 z2 : Int} {b d : Bool} {s : Value}
theorem BxQ.step (h : BxQ w0 z1 z2 b d s W) (hb : Below W.heap.size W w2) : BxQ w0 z1 z2 b d s w2 :=
  ⟨bStep h.bel hb, fun e => by obtain ⟨r, q1, q2, q3⟩ := h.bx e; exact ⟨r, q1, q2, blk_step q3 hb⟩, h.st⟩
theorem BxQ.mk0' (h : BxQ w0 z1 z2 false d s W) : BxQ w0 z1 z2 true d (.pointer (some ⟨W.heap.size, 0, none⟩)) (W.alloc (.cells #[.int .i64 0, .int .i64 0] 40)) := by
  have hd : d = false := by
    cases d with
    | false => rfl
    | true => exact absurd (h.st rfl) (by decide)
  subst hd
  exact ⟨bAlloc h.bel _, fun _ => ⟨_, rfl, h.bel.size, by simpa using blk_new W _⟩, fun e => by cases e⟩
theorem BxQ.put {r : Nat} (h : BxQ w0 z1 z2 true false (.pointer (some ⟨r, 0, none⟩)) W) : BxQ w0 z1 z2 true true (.pointer (some ⟨r, 0, none⟩)) ((W.setCell ⟨r, 0, none⟩ (.int .i64 z1)).setCell ⟨r, 1, none⟩ (.int .i64 z2)) := by
  obtain ⟨r', q1, q2, q3⟩ := h.bx rfl
  cases q1
  exact ⟨(h.bel.setCell q2 _).setCell q2 _, fun _ => ⟨_, rfl, q2, (blk_set (blk_set q3)).trans rfl⟩, fun _ => rfl⟩
theorem BxQ.open_ (h : BxQ w0 z1 z2 true d s W) : ∃ r, s = .pointer (some ⟨r, 0, none⟩) := by
  obtain ⟨r, q1, -, -⟩ := h.bx rfl
  exact ⟨r, q1⟩
end
theorem pairs_boxes (g : SpF) (l m : List (Int × Int)) : pairsS g l m = if boxesS l m ≠ 0 then ([], boxesS l m) else if firstErr g l m = 0 then (outs g l m l.length, 0) else ([], firstErr g l m) := by
  unfold pairsS boxesS
  by_cases h1 : 8 < max l.length m.length
  · simp [h1]
  · rw [if_neg h1, if_neg h1]
    by_cases h2 : ¬ (l.all okS = true ∧ m.all okS = true)
    · rw [if_pos h2, if_pos h2]; simp
    · rw [if_neg h2, if_neg h2]
      by_cases h3 : l.length ≠ m.length
      · rw [if_pos h3, if_pos h3]; simp
      · rw [if_neg h3, if_neg h3]; simp
theorem boxes_good {l m : List (Int × Int)} (h : boxesS l m = 0) : l.length ≤ 8 ∧ m.length = l.length ∧ l.all okS = true ∧ m.all okS = true := by
  unfold boxesS at h
  split at h
  · exact absurd h (by decide)
  · split at h
    · exact absurd h (by decide)
    · split at h
      · exact absurd h (by decide)
      · rename_i h1 h2 h3
        have := Classical.not_not.1 h2
        exact ⟨by omega, by omega, this.1, this.2⟩
theorem hull_noerr {l m : List (Int × Int)} (h : boxesS l m = 0) : ∀ j, j < l.length → (gAt hullS l m j).2 = 0 := by
  obtain ⟨-, h2, h3, h4⟩ := boxes_good h
  intro j hj
  unfold gAt
  rw [hullS_yes (by rw [all_ok.1 h3 j hj, all_ok.1 h4 j (by omega)]; rfl)]
set_option maxHeartbeats 4000000 in
set_option maxRecDepth 20000 in
theorem RBoxmeet_row (v u : Value) (l m : List (Int × Int)) (w : World) (hl : l.length ≤ 1000000) (hm : m.length ≤ 1000000) (hv : SpRow v l w) (hu : SpRow u m w) :
    Calls Try.prog 26 #[v, u] w fun e w' => ∃ x, e = .returned (.tuple #[x, .int .i64 (pairsS meetS l m).2]) ∧ SpRow x (pairsS meetS l m).1 w' ∧ Below w.heap.size w w' := by
  have C := Lib.hid (fun w h1 h2 => Rboxes_row v u l m w hl hm h1 h2)
  have HV := Lib.hid hv
  have HU := Lib.hid hu
  obtain ⟨a, ca, rfl, hA⟩ := hv
  obtain ⟨b, cb, rfl, hB⟩ := hu
  have hp := pairs_boxes meetS l m
  by_cases h0 : boxesS l m = 0
  · rw [if_neg (fun h => h h0)] at hp
    obtain ⟨h8, hlm, hok1, hok2⟩ := boxes_good h0
    skip
    rw [h0] at C
    have H3 := Lib.hid hlm
    rw [hlm] at HU C ⊢
    have HA := Lib.hid hA
    have HB := Lib.hid hB
    have HG1 := Lib.hid (fun k (hk : k < l.length) h0 h1 => firstErr_at (g := meetS) (l := l) (m := m) (k := k) hk h0 h1)
    have HG2 := Lib.hid (fun h0 => firstErr_none (g := meetS) (l := l) (m := m) h0)
    have HP := Lib.hid hp
    have HS := Lib.hid (fun n => outs_succ meetS l m n)
    have HN := Lib.hid (fun n => outs_len meetS l m n)
    have HGk := Lib.hid (fun k => show gAt meetS l m k = meetS (l.getD k (0, 0)) (m.getD k (0, 0)) from rfl)
    generalize pairsS meetS l m = R at *
    generalize gAt meetS l m = G at *
    generalize outs meetS l m = OU at *
    generalize firstErr meetS l m = fe at *
    clear hA hB hp hlm h0 hok1 hok2 hl hm
    obtain ⟨i0, hi, hz0, hz1, hz2⟩ := info_parts infoSp
    go_enter Try.func26, Try.ntmps26
    go_wp2_with (go_at_call 68; refine (C.out _ HV.out HU.out).mono ?_; rintro e w1 ⟨rfl, hb1⟩)
    go_loopw [7, 8] (fun ov i wr => ∃ k : Nat, k ≤ l.length ∧ i = .int .i64 k ∧ Hid (SpOwn wr w.heap.size ov (OU k)) ∧ Hid (Below w.heap.size w wr) ∧ Hid (∀ j, j < k → (G j).2 = 0)) (fun _ i _ => l.length - (intOf i).toNat)
    case atStart =>
      refine ⟨0, by omega, rfl, ?_, Lib.hid hb1, fun j hj => by omega⟩
      have h9 := HN.out 0
      have : OU 0 = [] := List.length_eq_zero_iff.1 h9
      unfold Hid
      rw [this]
      exact SpOwn.nil
    case round =>
      obtain ⟨k, hk, rfl, HO, HW, HI⟩ := hrel
      have hb := HW.out
      by_cases hlt : k < l.length
      · have hlm : k < m.length := by rw [H3.out]; exact hlt
        obtain ⟨bu, ou, rfl, hc⟩ := (HA.out.step HW.out) (fun h => by rw [h] at hlt; simp at hlt)
        obtain ⟨bv, ov', rfl, hd⟩ := (HB.out.step HW.out) (fun h => by rw [h] at hlm; simp at hlm)
        have q12 := hc.2 k hlt
        have p12 := hd.2 k hlm
        have hGk := HGk.out k
        have lu := hc.1
        have lv := hd.1
        have hlt2 : (k : Int) < l.length := by omega
        have HI2 : Hid ((G k).2 = 0 → ∀ j, j < k + 1 → (G j).2 = 0) := by
          intro h j hj
          rcases Nat.lt_or_ge j k with h' | h'
          · exact HI.out j h'
          · obtain rfl : j = k := by omega
            exact h
        have HN2 : Hid ((G k).2 ≠ 0 → R = ([], (G k).2)) := fun h => by
          have e := HG1.out k hlt (fun j hj => HI.out j hj) h
          rw [HP.out, if_neg (by rw [e]; exact h), e]
        skip
        have HS2 := Lib.hid (HS.out k)
        have hLk := HN.out k
        clear hc hd HI HG1 HG2 HGk HS 
        generalize l.getD k (0, 0) = x at *
        generalize m.getD k (0, 0) = y at *
        obtain ⟨x1, x2⟩ := x
        obtain ⟨y1, y2⟩ := y
        obtain ⟨q1, q2⟩ := q12
        obtain ⟨p1, p2⟩ := p12
        have CX := fun W => RMeet_any (x1, x2) (y1, y2) W
        rw [← hGk] at CX
        have HL8 := Lib.hid (show (OU k).length ≤ 8 by rw [hLk]; omega)
        generalize hgk : G k = gk at *
        obtain ⟨⟨z1, z2⟩, er⟩ := gk
        dsimp only at q1 q2 p1 p2 CX HI2 HN2 HS2 
        have CZ := Lib.hid CX
        clear CX hgk hGk hLk HN
        skip
        go_upto_region 8 with fail
        refine region_all 15 8 43 [(12, 9), (13, 44)] [(none, []), (none, []), (none, []), (none, []), (none, []), (none, []), (none, []), (none, []), (none, []), (none, []), (none, []), (none, []), (some 0, []), (some 1, [0]), (none, [])] [(24, (.slice (some ⟨bu, ou, none⟩) l.length ca)), (25, (.int .i64 (k : Int))), (26, (.pointer (some ⟨bu, ou + k * 2, none⟩))), (27, (.agg #[.int .i64 x1, .int .i64 x2])), (28, (.slice (some ⟨bv, ov', none⟩) l.length cb)), (29, (.int .i64 (k : Int))), (30, (.pointer (some ⟨bv, ov' + k * 2, none⟩))), (31, (.agg #[.int .i64 y1, .int .i64 y2])), (32, (.tuple #[.agg #[.int .i64 z1, .int .i64 z2], .int .i64 er])), (23, (.tuple #[.agg #[.int .i64 z1, .int .i64 z2], .int .i64 er])), (33, (.agg #[.int .i64 z1, .int .i64 z2])), (34, (.int .i64 er)), (10, (.int .i64 er))] (fun bsE vsE W => BxQ wr z1 z2 (bsE.getD 0 false) (bsE.getD 1 false) (vsE.getD 0 undef) W) (by kernel_rfl) (by kernel_rfl) rfl rfl (by kernel_rfl) (by rfl) ?h0 ?each ?done
        case h0 =>
          intro vsE hlv
          obtain ⟨v0, vsE0, rfl, hlv0⟩ := len_one hlv
          obtain ⟨v1, vsE1, rfl, hlv1⟩ := len_one hlv0
          obtain rfl := len_nil hlv1
          exact ⟨(Below.refl _ _).drew, (fun e => by cases e), (fun e => by cases e)⟩
        case each =>
          simp only [AllE]
          refine ⟨?_, ?_, ?_, ?_, ?_, ?_, ?_, ?_, ?_, ?_, ?_, ?_, ?_, ?_, ?_, trivial⟩
          · refine ⟨24, (.slice (some ⟨bu, ou, none⟩) l.length ca), rfl, by kernel_rfl, ?_⟩
            intro bsE vsE W hlb hlv hnd h
            obtain ⟨b0, bsE0, rfl, hlb0⟩ := len_one hlb
            obtain ⟨v0, vsE0, rfl, hlv0⟩ := len_one hlv
            obtain ⟨b1, bsE1, rfl, hlb1⟩ := len_one hlb0
            obtain ⟨v1, vsE1, rfl, hlv1⟩ := len_one hlv0
            obtain rfl := len_nil hlb1
            obtain rfl := len_nil hlv1
            replace h : BxQ wr z1 z2 b0 b1 v0 W := h
            clear hnd
            have HST := Lib.hid h
            have g1 := cell_step q1 h.bel; have g2 := cell_step q2 h.bel; have g3 := cell_step p1 h.bel; have g4 := cell_step p2 h.bel; have gs := h.bel.size
            intro K Q hK
            simp only [putE, updAll, Act.put, List.setIfInBounds_toArray, List.set_cons_zero, List.set_cons_succ, List.set_nil] at hK ⊢
            go_wp2_with (fail)
            all_goals (first | exact hK _ (by first | exact h | exact h.step (by first | assumption | (repeat' (first | exact Below.refl _ _ | apply bDrewN | apply bDrew)))) | exact (by first | exact h | exact h.step (by first | assumption | (repeat' (first | exact Below.refl _ _ | apply bDrewN | apply bDrew)))))
          · refine ⟨25, (.int .i64 (k : Int)), rfl, by kernel_rfl, ?_⟩
            intro bsE vsE W hlb hlv hnd h
            obtain ⟨b0, bsE0, rfl, hlb0⟩ := len_one hlb
            obtain ⟨v0, vsE0, rfl, hlv0⟩ := len_one hlv
            obtain ⟨b1, bsE1, rfl, hlb1⟩ := len_one hlb0
            obtain ⟨v1, vsE1, rfl, hlv1⟩ := len_one hlv0
            obtain rfl := len_nil hlb1
            obtain rfl := len_nil hlv1
            replace h : BxQ wr z1 z2 b0 b1 v0 W := h
            clear hnd
            have HST := Lib.hid h
            have g1 := cell_step q1 h.bel; have g2 := cell_step q2 h.bel; have g3 := cell_step p1 h.bel; have g4 := cell_step p2 h.bel; have gs := h.bel.size
            intro K Q hK
            simp only [putE, updAll, Act.put, List.setIfInBounds_toArray, List.set_cons_zero, List.set_cons_succ, List.set_nil] at hK ⊢
            go_wp2_with (fail)
            all_goals (first | exact hK _ (by first | exact h | exact h.step (by first | assumption | (repeat' (first | exact Below.refl _ _ | apply bDrewN | apply bDrew)))) | exact (by first | exact h | exact h.step (by first | assumption | (repeat' (first | exact Below.refl _ _ | apply bDrewN | apply bDrew)))))
          · refine ⟨26, (.pointer (some ⟨bu, ou + k * 2, none⟩)), rfl, by kernel_rfl, ?_⟩
            intro bsE vsE W hlb hlv hnd h
            obtain ⟨b0, bsE0, rfl, hlb0⟩ := len_one hlb
            obtain ⟨v0, vsE0, rfl, hlv0⟩ := len_one hlv
            obtain ⟨b1, bsE1, rfl, hlb1⟩ := len_one hlb0
            obtain ⟨v1, vsE1, rfl, hlv1⟩ := len_one hlv0
            obtain rfl := len_nil hlb1
            obtain rfl := len_nil hlv1
            replace h : BxQ wr z1 z2 b0 b1 v0 W := h
            clear hnd
            have HST := Lib.hid h
            have g1 := cell_step q1 h.bel; have g2 := cell_step q2 h.bel; have g3 := cell_step p1 h.bel; have g4 := cell_step p2 h.bel; have gs := h.bel.size
            intro K Q hK
            simp only [putE, updAll, Act.put, List.setIfInBounds_toArray, List.set_cons_zero, List.set_cons_succ, List.set_nil] at hK ⊢
            go_wp2_with (fail)
            all_goals (first | exact hK _ (by first | exact h | exact h.step (by first | assumption | (repeat' (first | exact Below.refl _ _ | apply bDrewN | apply bDrew)))) | exact (by first | exact h | exact h.step (by first | assumption | (repeat' (first | exact Below.refl _ _ | apply bDrewN | apply bDrew)))))
          · refine ⟨27, (.agg #[.int .i64 x1, .int .i64 x2]), rfl, by kernel_rfl, ?_⟩
            intro bsE vsE W hlb hlv hnd h
            obtain ⟨b0, bsE0, rfl, hlb0⟩ := len_one hlb
            obtain ⟨v0, vsE0, rfl, hlv0⟩ := len_one hlv
            obtain ⟨b1, bsE1, rfl, hlb1⟩ := len_one hlb0
            obtain ⟨v1, vsE1, rfl, hlv1⟩ := len_one hlv0
            obtain rfl := len_nil hlb1
            obtain rfl := len_nil hlv1
            replace h : BxQ wr z1 z2 b0 b1 v0 W := h
            clear hnd
            have HST := Lib.hid h
            have g1 := cell_step q1 h.bel; have g2 := cell_step q2 h.bel; have g3 := cell_step p1 h.bel; have g4 := cell_step p2 h.bel; have gs := h.bel.size
            intro K Q hK
            simp only [putE, updAll, Act.put, List.setIfInBounds_toArray, List.set_cons_zero, List.set_cons_succ, List.set_nil] at hK ⊢
            go_wp2_with (fail)
            all_goals (first | exact hK _ (by first | exact h | exact h.step (by first | assumption | (repeat' (first | exact Below.refl _ _ | apply bDrewN | apply bDrew)))) | exact (by first | exact h | exact h.step (by first | assumption | (repeat' (first | exact Below.refl _ _ | apply bDrewN | apply bDrew)))))
          · refine ⟨28, (.slice (some ⟨bv, ov', none⟩) l.length cb), rfl, by kernel_rfl, ?_⟩
            intro bsE vsE W hlb hlv hnd h
            obtain ⟨b0, bsE0, rfl, hlb0⟩ := len_one hlb
            obtain ⟨v0, vsE0, rfl, hlv0⟩ := len_one hlv
            obtain ⟨b1, bsE1, rfl, hlb1⟩ := len_one hlb0
            obtain ⟨v1, vsE1, rfl, hlv1⟩ := len_one hlv0
            obtain rfl := len_nil hlb1
            obtain rfl := len_nil hlv1
            replace h : BxQ wr z1 z2 b0 b1 v0 W := h
            clear hnd
            have HST := Lib.hid h
            have g1 := cell_step q1 h.bel; have g2 := cell_step q2 h.bel; have g3 := cell_step p1 h.bel; have g4 := cell_step p2 h.bel; have gs := h.bel.size
            intro K Q hK
            simp only [putE, updAll, Act.put, List.setIfInBounds_toArray, List.set_cons_zero, List.set_cons_succ, List.set_nil] at hK ⊢
            go_wp2_with (fail)
            all_goals (first | exact hK _ (by first | exact h | exact h.step (by first | assumption | (repeat' (first | exact Below.refl _ _ | apply bDrewN | apply bDrew)))) | exact (by first | exact h | exact h.step (by first | assumption | (repeat' (first | exact Below.refl _ _ | apply bDrewN | apply bDrew)))))
          · refine ⟨29, (.int .i64 (k : Int)), rfl, by kernel_rfl, ?_⟩
            intro bsE vsE W hlb hlv hnd h
            obtain ⟨b0, bsE0, rfl, hlb0⟩ := len_one hlb
            obtain ⟨v0, vsE0, rfl, hlv0⟩ := len_one hlv
            obtain ⟨b1, bsE1, rfl, hlb1⟩ := len_one hlb0
            obtain ⟨v1, vsE1, rfl, hlv1⟩ := len_one hlv0
            obtain rfl := len_nil hlb1
            obtain rfl := len_nil hlv1
            replace h : BxQ wr z1 z2 b0 b1 v0 W := h
            clear hnd
            have HST := Lib.hid h
            have g1 := cell_step q1 h.bel; have g2 := cell_step q2 h.bel; have g3 := cell_step p1 h.bel; have g4 := cell_step p2 h.bel; have gs := h.bel.size
            intro K Q hK
            simp only [putE, updAll, Act.put, List.setIfInBounds_toArray, List.set_cons_zero, List.set_cons_succ, List.set_nil] at hK ⊢
            go_wp2_with (fail)
            all_goals (first | exact hK _ (by first | exact h | exact h.step (by first | assumption | (repeat' (first | exact Below.refl _ _ | apply bDrewN | apply bDrew)))) | exact (by first | exact h | exact h.step (by first | assumption | (repeat' (first | exact Below.refl _ _ | apply bDrewN | apply bDrew)))))
          · refine ⟨30, (.pointer (some ⟨bv, ov' + k * 2, none⟩)), rfl, by kernel_rfl, ?_⟩
            intro bsE vsE W hlb hlv hnd h
            obtain ⟨b0, bsE0, rfl, hlb0⟩ := len_one hlb
            obtain ⟨v0, vsE0, rfl, hlv0⟩ := len_one hlv
            obtain ⟨b1, bsE1, rfl, hlb1⟩ := len_one hlb0
            obtain ⟨v1, vsE1, rfl, hlv1⟩ := len_one hlv0
            obtain rfl := len_nil hlb1
            obtain rfl := len_nil hlv1
            replace h : BxQ wr z1 z2 b0 b1 v0 W := h
            clear hnd
            have HST := Lib.hid h
            have g1 := cell_step q1 h.bel; have g2 := cell_step q2 h.bel; have g3 := cell_step p1 h.bel; have g4 := cell_step p2 h.bel; have gs := h.bel.size
            intro K Q hK
            simp only [putE, updAll, Act.put, List.setIfInBounds_toArray, List.set_cons_zero, List.set_cons_succ, List.set_nil] at hK ⊢
            go_wp2_with (fail)
            all_goals (first | exact hK _ (by first | exact h | exact h.step (by first | assumption | (repeat' (first | exact Below.refl _ _ | apply bDrewN | apply bDrew)))) | exact (by first | exact h | exact h.step (by first | assumption | (repeat' (first | exact Below.refl _ _ | apply bDrewN | apply bDrew)))))
          · refine ⟨31, (.agg #[.int .i64 y1, .int .i64 y2]), rfl, by kernel_rfl, ?_⟩
            intro bsE vsE W hlb hlv hnd h
            obtain ⟨b0, bsE0, rfl, hlb0⟩ := len_one hlb
            obtain ⟨v0, vsE0, rfl, hlv0⟩ := len_one hlv
            obtain ⟨b1, bsE1, rfl, hlb1⟩ := len_one hlb0
            obtain ⟨v1, vsE1, rfl, hlv1⟩ := len_one hlv0
            obtain rfl := len_nil hlb1
            obtain rfl := len_nil hlv1
            replace h : BxQ wr z1 z2 b0 b1 v0 W := h
            clear hnd
            have HST := Lib.hid h
            have g1 := cell_step q1 h.bel; have g2 := cell_step q2 h.bel; have g3 := cell_step p1 h.bel; have g4 := cell_step p2 h.bel; have gs := h.bel.size
            intro K Q hK
            simp only [putE, updAll, Act.put, List.setIfInBounds_toArray, List.set_cons_zero, List.set_cons_succ, List.set_nil] at hK ⊢
            go_wp2_with (fail)
            all_goals (first | exact hK _ (by first | exact h | exact h.step (by first | assumption | (repeat' (first | exact Below.refl _ _ | apply bDrewN | apply bDrew)))) | exact (by first | exact h | exact h.step (by first | assumption | (repeat' (first | exact Below.refl _ _ | apply bDrewN | apply bDrew)))))
          · refine ⟨32, (.tuple #[.agg #[.int .i64 z1, .int .i64 z2], .int .i64 er]), rfl, by kernel_rfl, ?_⟩
            intro bsE vsE W hlb hlv hnd h
            obtain ⟨b0, bsE0, rfl, hlb0⟩ := len_one hlb
            obtain ⟨v0, vsE0, rfl, hlv0⟩ := len_one hlv
            obtain ⟨b1, bsE1, rfl, hlb1⟩ := len_one hlb0
            obtain ⟨v1, vsE1, rfl, hlv1⟩ := len_one hlv0
            obtain rfl := len_nil hlb1
            obtain rfl := len_nil hlv1
            replace h : BxQ wr z1 z2 b0 b1 v0 W := h
            clear hnd
            have HST := Lib.hid h
            have g1 := cell_step q1 h.bel; have g2 := cell_step q2 h.bel; have g3 := cell_step p1 h.bel; have g4 := cell_step p2 h.bel; have gs := h.bel.size
            intro K Q hK
            simp only [putE, updAll, Act.put, List.setIfInBounds_toArray, List.set_cons_zero, List.set_cons_succ, List.set_nil] at hK ⊢
            go_wp2_with (go_at_call 69; refine (CZ.out _).mono ?_; rintro e w9 ⟨rfl, hb9⟩)
            all_goals (first | exact hK _ (by first | exact h | exact h.step (by first | assumption | (repeat' (first | exact Below.refl _ _ | apply bDrewN | apply bDrew)))) | exact (by first | exact h | exact h.step (by first | assumption | (repeat' (first | exact Below.refl _ _ | apply bDrewN | apply bDrew)))))
          · refine ⟨23, (.tuple #[.agg #[.int .i64 z1, .int .i64 z2], .int .i64 er]), rfl, by kernel_rfl, ?_⟩
            intro bsE vsE W hlb hlv hnd h
            obtain ⟨b0, bsE0, rfl, hlb0⟩ := len_one hlb
            obtain ⟨v0, vsE0, rfl, hlv0⟩ := len_one hlv
            obtain ⟨b1, bsE1, rfl, hlb1⟩ := len_one hlb0
            obtain ⟨v1, vsE1, rfl, hlv1⟩ := len_one hlv0
            obtain rfl := len_nil hlb1
            obtain rfl := len_nil hlv1
            replace h : BxQ wr z1 z2 b0 b1 v0 W := h
            clear hnd
            have HST := Lib.hid h
            have g1 := cell_step q1 h.bel; have g2 := cell_step q2 h.bel; have g3 := cell_step p1 h.bel; have g4 := cell_step p2 h.bel; have gs := h.bel.size
            intro K Q hK
            simp only [putE, updAll, Act.put, List.setIfInBounds_toArray, List.set_cons_zero, List.set_cons_succ, List.set_nil] at hK ⊢
            go_wp2_with (fail)
            all_goals (first | exact hK _ (by first | exact h | exact h.step (by first | assumption | (repeat' (first | exact Below.refl _ _ | apply bDrewN | apply bDrew)))) | exact (by first | exact h | exact h.step (by first | assumption | (repeat' (first | exact Below.refl _ _ | apply bDrewN | apply bDrew)))))
          · refine ⟨33, (.agg #[.int .i64 z1, .int .i64 z2]), rfl, by kernel_rfl, ?_⟩
            intro bsE vsE W hlb hlv hnd h
            obtain ⟨b0, bsE0, rfl, hlb0⟩ := len_one hlb
            obtain ⟨v0, vsE0, rfl, hlv0⟩ := len_one hlv
            obtain ⟨b1, bsE1, rfl, hlb1⟩ := len_one hlb0
            obtain ⟨v1, vsE1, rfl, hlv1⟩ := len_one hlv0
            obtain rfl := len_nil hlb1
            obtain rfl := len_nil hlv1
            replace h : BxQ wr z1 z2 b0 b1 v0 W := h
            clear hnd
            have HST := Lib.hid h
            have g1 := cell_step q1 h.bel; have g2 := cell_step q2 h.bel; have g3 := cell_step p1 h.bel; have g4 := cell_step p2 h.bel; have gs := h.bel.size
            intro K Q hK
            simp only [putE, updAll, Act.put, List.setIfInBounds_toArray, List.set_cons_zero, List.set_cons_succ, List.set_nil] at hK ⊢
            go_wp2_with (fail)
            all_goals (first | exact hK _ (by first | exact h | exact h.step (by first | assumption | (repeat' (first | exact Below.refl _ _ | apply bDrewN | apply bDrew)))) | exact (by first | exact h | exact h.step (by first | assumption | (repeat' (first | exact Below.refl _ _ | apply bDrewN | apply bDrew)))))
          · refine ⟨34, (.int .i64 er), rfl, by kernel_rfl, ?_⟩
            intro bsE vsE W hlb hlv hnd h
            obtain ⟨b0, bsE0, rfl, hlb0⟩ := len_one hlb
            obtain ⟨v0, vsE0, rfl, hlv0⟩ := len_one hlv
            obtain ⟨b1, bsE1, rfl, hlb1⟩ := len_one hlb0
            obtain ⟨v1, vsE1, rfl, hlv1⟩ := len_one hlv0
            obtain rfl := len_nil hlb1
            obtain rfl := len_nil hlv1
            replace h : BxQ wr z1 z2 b0 b1 v0 W := h
            clear hnd
            have HST := Lib.hid h
            have g1 := cell_step q1 h.bel; have g2 := cell_step q2 h.bel; have g3 := cell_step p1 h.bel; have g4 := cell_step p2 h.bel; have gs := h.bel.size
            intro K Q hK
            simp only [putE, updAll, Act.put, List.setIfInBounds_toArray, List.set_cons_zero, List.set_cons_succ, List.set_nil] at hK ⊢
            go_wp2_with (fail)
            all_goals (first | exact hK _ (by first | exact h | exact h.step (by first | assumption | (repeat' (first | exact Below.refl _ _ | apply bDrewN | apply bDrew)))) | exact (by first | exact h | exact h.step (by first | assumption | (repeat' (first | exact Below.refl _ _ | apply bDrewN | apply bDrew)))))
          · refine Or.inl ⟨9, rfl, ?_⟩
            intro bsE vsE W hlb hlv hnd hbk h
            obtain ⟨b0, bsE0, rfl, hlb0⟩ := len_one hlb
            obtain ⟨v0, vsE0, rfl, hlv0⟩ := len_one hlv
            obtain ⟨b1, bsE1, rfl, hlb1⟩ := len_one hlb0
            obtain ⟨v1, vsE1, rfl, hlv1⟩ := len_one hlv0
            obtain rfl := len_nil hlb1
            obtain rfl := len_nil hlv1
            obtain rfl : b0 = false := hbk
            replace h : BxQ wr z1 z2 false b1 v0 W := h
            clear hnd
            have HST := Lib.hid h
            have g1 := cell_step q1 h.bel; have g2 := cell_step q2 h.bel; have g3 := cell_step p1 h.bel; have g4 := cell_step p2 h.bel; have gs := h.bel.size
            intro K Q hK
            simp only [putE, updAll, Act.put, List.setIfInBounds_toArray, List.set_cons_zero, List.set_cons_succ, List.set_nil] at hK ⊢
            go_wp2_with fail
            all_goals (first | exact hK _ _ h.mk0' | exact h.mk0')
          · refine Or.inr ⟨rfl, ?_⟩
            intro bsE vsE W hlb hlv hnd hbk h
            obtain ⟨b0, bsE0, rfl, hlb0⟩ := len_one hlb
            obtain ⟨v0, vsE0, rfl, hlv0⟩ := len_one hlv
            obtain ⟨b1, bsE1, rfl, hlb1⟩ := len_one hlb0
            obtain ⟨v1, vsE1, rfl, hlv1⟩ := len_one hlv0
            obtain rfl := len_nil hlb1
            obtain rfl := len_nil hlv1
            obtain rfl : b0 = true := hnd 0 (by simp)
            obtain rfl : b1 = false := hbk
            replace h : BxQ wr z1 z2 true false v0 W := h
            clear hnd
            have HST := Lib.hid h
            obtain ⟨r, rfl⟩ := h.open_; obtain ⟨_, er', hr1, hr2⟩ := h.bx rfl; cases er'; simp only [Bool.false_eq_true, if_false] at hr2; have t0 := blk_cell (o := 0) hr2 rfl; have t1 := blk_cell (o := 1) hr2 rfl; have t2 := blk_free (o := 0) hr2; have t3 := blk_free (o := 1) hr2; have t4 := blk_lt hr2
            intro K Q hK
            simp only [putE, updAll, Act.put, List.setIfInBounds_toArray, List.set_cons_zero, List.set_cons_succ, List.set_nil] at hK ⊢
            go_wp2_with fail
            all_goals (first | exact hK _ h.put | exact h.put)
          · refine ⟨10, (.int .i64 er), rfl, by kernel_rfl, ?_⟩
            intro bsE vsE W hlb hlv hnd h
            obtain ⟨b0, bsE0, rfl, hlb0⟩ := len_one hlb
            obtain ⟨v0, vsE0, rfl, hlv0⟩ := len_one hlv
            obtain ⟨b1, bsE1, rfl, hlb1⟩ := len_one hlb0
            obtain ⟨v1, vsE1, rfl, hlv1⟩ := len_one hlv0
            obtain rfl := len_nil hlb1
            obtain rfl := len_nil hlv1
            replace h : BxQ wr z1 z2 b0 b1 v0 W := h
            clear hnd
            have HST := Lib.hid h
            have g1 := cell_step q1 h.bel; have g2 := cell_step q2 h.bel; have g3 := cell_step p1 h.bel; have g4 := cell_step p2 h.bel; have gs := h.bel.size
            intro K Q hK
            simp only [putE, updAll, Act.put, List.setIfInBounds_toArray, List.set_cons_zero, List.set_cons_succ, List.set_nil] at hK ⊢
            go_wp2_with (fail)
            all_goals (first | exact hK _ (by first | exact h | exact h.step (by first | assumption | (repeat' (first | exact Below.refl _ _ | apply bDrewN | apply bDrew)))) | exact (by first | exact h | exact h.step (by first | assumption | (repeat' (first | exact Below.refl _ _ | apply bDrewN | apply bDrew)))))
        case done =>
          intro vsE W hlv h
          obtain ⟨v0, vsE0, rfl, hlv0⟩ := len_one hlv
          obtain ⟨v1, vsE1, rfl, hlv1⟩ := len_one hlv0
          obtain rfl := len_nil hlv1
          replace h : BxQ wr z1 z2 true true v0 W := h
          have HST := Lib.hid h
          obtain ⟨r, er', hr1, hr2⟩ := h.bx rfl
          subst er'
          simp only [if_true] at hr2
          have t0 := blk_cell (o := 0) hr2 rfl
          have t1 := blk_cell (o := 1) hr2 rfl
          have t4 := blk_lt hr2
          have hbR := h.bel
          have HO2 := Lib.hid (HO.out.step hbR)
          simp only [putE, updAll, Act.put, List.setIfInBounds_toArray, List.set_cons_zero, List.set_cons_succ, List.set_nil]
          by_cases her : er = 0
          · subst her
            have HI3 := Lib.hid (HI2.out rfl)
            clear HI2 HN2
            go_wp2_with (at_builtin; refine wpList_append_own _ rfl (.tmp 38) (.tmp 40) 47 rfl (w.heap.size) 40 i0 (.agg #[.int .i64 0, .int .i64 0]) 2 16 Try.underlying47 hi hz0 hz1 hz2 rfl (by decide) _ _ _ rfl (World.ownsRow.alloc HO2.out _) ⟨_, 0, none⟩ 1 1 [.int .i64 z1, .int .i64 z2] rfl rfl (two_cells _ _ _ _) (two_one _ _) (by have := HL8.out; unfold maxLen; omega) (by have := HL8.out; omega) (by have := hb.size; have := hbR.size; simp; omega) ?_; intro v' w9 hown hgrow _; have kB : Below w.heap.size w w9 := (bAlloc (bStep hb hbR) _).grown hgrow (by have := hb.size; have := hbR.size; simp; omega) (own_ge HO2.out))
            go_roundw
            case rel => exact ⟨k + 1, by omega, by push_cast; rfl, by unfold Hid; rw [HS2.out]; exact SpOwn.more hown, kB, HI3.out⟩
            case measure => (simp [intOf]; omega)
          · have hR := HN2.out her
            subst hR
            clear HI2 HN2
            go_wp2_with fail
            go_ret2
            exact ⟨_, rfl, SpRow.nil, (by repeat' (first | exact Below.refl _ _ | assumption | apply bDrewN | apply bDrew | apply bAlloc | (refine bSet ?_ ?_ _) | (refine bStep ?_ (by assumption)) | omega | (simp <;> omega)))⟩
      · obtain rfl : k = l.length := by omega
        have hR : R = (OU l.length, 0) := by rw [HP.out, if_pos (HG2.out (fun j hj => HI.out j hj))]
        have hLk := HN.out l.length
        generalize OU l.length = OK at *
        subst hR
        have hle : ¬ ((l.length : Nat) : Int) < l.length := by omega
        obtain ⟨a9, c9, rfl, -⟩ := HO.out.at_
        have HO3 := SpOwn.row HO.out
        rw [hLk] at HO3
        have HO2 := Lib.hid HO3
        clear HO3
        clear HG1 HG2 HP HS HN HI HGk HO
        go_wp2_with fail
        go_ret2
        exact ⟨_, rfl, HO2.out, (by repeat' (first | exact Below.refl _ _ | assumption | apply bDrewN | apply bDrew | apply bAlloc | (refine bSet ?_ ?_ _) | (refine bStep ?_ (by assumption)) | omega | (simp <;> omega)))⟩
  · have hr : pairsS meetS l m = ([], boxesS l m) := by rw [hp, if_pos h0]
    rw [hr]
    generalize boxesS l m = z at *
    clear hr hp hA hB hl hm
    go_enter Try.func26, Try.ntmps26
    go_wp2_with (go_at_call 68; refine (C.out _ HV.out HU.out).mono ?_; rintro e w1 ⟨rfl, hb1⟩)
    go_ret2
    exact ⟨_, rfl, SpRow.nil, (by repeat' (first | exact Below.refl _ _ | assumption | apply bDrewN | apply bDrew | apply bAlloc | (refine bSet ?_ ?_ _) | (refine bStep ?_ (by assumption)) | omega | (simp <;> omega)))⟩

set_option maxHeartbeats 4000000 in
set_option maxRecDepth 20000 in
theorem RBoxhull_row (v u : Value) (l m : List (Int × Int)) (w : World) (hl : l.length ≤ 1000000) (hm : m.length ≤ 1000000) (hv : SpRow v l w) (hu : SpRow u m w) :
    Calls Try.prog 29 #[v, u] w fun e w' => ∃ x, e = .returned (.tuple #[x, .int .i64 (pairsS hullS l m).2]) ∧ SpRow x (pairsS hullS l m).1 w' ∧ Below w.heap.size w w' := by
  have C := Lib.hid (fun w h1 h2 => Rboxes_row v u l m w hl hm h1 h2)
  have HV := Lib.hid hv
  have HU := Lib.hid hu
  obtain ⟨a, ca, rfl, hA⟩ := hv
  obtain ⟨b, cb, rfl, hB⟩ := hu
  have hp := pairs_boxes hullS l m
  by_cases h0 : boxesS l m = 0
  · rw [if_neg (fun h => h h0)] at hp
    obtain ⟨h8, hlm, hok1, hok2⟩ := boxes_good h0
    have HE0 := Lib.hid (hull_noerr h0)
    rw [h0] at C
    have H3 := Lib.hid hlm
    rw [hlm] at HU C ⊢
    have HA := Lib.hid hA
    have HB := Lib.hid hB
    have HG1 := Lib.hid (fun k (hk : k < l.length) h0 h1 => firstErr_at (g := hullS) (l := l) (m := m) (k := k) hk h0 h1)
    have HG2 := Lib.hid (fun h0 => firstErr_none (g := hullS) (l := l) (m := m) h0)
    have HP := Lib.hid hp
    have HS := Lib.hid (fun n => outs_succ hullS l m n)
    have HN := Lib.hid (fun n => outs_len hullS l m n)
    have HGk := Lib.hid (fun k => show gAt hullS l m k = hullS (l.getD k (0, 0)) (m.getD k (0, 0)) from rfl)
    generalize pairsS hullS l m = R at *
    generalize gAt hullS l m = G at *
    generalize outs hullS l m = OU at *
    generalize firstErr hullS l m = fe at *
    clear hA hB hp hlm h0 hok1 hok2 hl hm
    obtain ⟨i0, hi, hz0, hz1, hz2⟩ := info_parts infoSp
    go_enter Try.func29, Try.ntmps29
    go_wp2_with (go_at_call 68; refine (C.out _ HV.out HU.out).mono ?_; rintro e w1 ⟨rfl, hb1⟩)
    go_loopw [7, 8] (fun ov i wr => ∃ k : Nat, k ≤ l.length ∧ i = .int .i64 k ∧ Hid (SpOwn wr w.heap.size ov (OU k)) ∧ Hid (Below w.heap.size w wr) ∧ Hid (∀ j, j < k → (G j).2 = 0)) (fun _ i _ => l.length - (intOf i).toNat)
    case atStart =>
      refine ⟨0, by omega, rfl, ?_, Lib.hid hb1, fun j hj => by omega⟩
      have h9 := HN.out 0
      have : OU 0 = [] := List.length_eq_zero_iff.1 h9
      unfold Hid
      rw [this]
      exact SpOwn.nil
    case round =>
      obtain ⟨k, hk, rfl, HO, HW, HI⟩ := hrel
      have hb := HW.out
      by_cases hlt : k < l.length
      · have hlm : k < m.length := by rw [H3.out]; exact hlt
        obtain ⟨bu, ou, rfl, hc⟩ := (HA.out.step HW.out) (fun h => by rw [h] at hlt; simp at hlt)
        obtain ⟨bv, ov', rfl, hd⟩ := (HB.out.step HW.out) (fun h => by rw [h] at hlm; simp at hlm)
        have q12 := hc.2 k hlt
        have p12 := hd.2 k hlm
        have hGk := HGk.out k
        have lu := hc.1
        have lv := hd.1
        have hlt2 : (k : Int) < l.length := by omega
        have HI2 : Hid ((G k).2 = 0 → ∀ j, j < k + 1 → (G j).2 = 0) := by
          intro h j hj
          rcases Nat.lt_or_ge j k with h' | h'
          · exact HI.out j h'
          · obtain rfl : j = k := by omega
            exact h
        have HN2 : Hid ((G k).2 ≠ 0 → R = ([], (G k).2)) := fun h => by
          have e := HG1.out k hlt (fun j hj => HI.out j hj) h
          rw [HP.out, if_neg (by rw [e]; exact h), e]
        have hE0 := HE0.out k hlt
        have HS2 := Lib.hid (HS.out k)
        have hLk := HN.out k
        clear hc hd HI HG1 HG2 HGk HS HE0
        generalize l.getD k (0, 0) = x at *
        generalize m.getD k (0, 0) = y at *
        obtain ⟨x1, x2⟩ := x
        obtain ⟨y1, y2⟩ := y
        obtain ⟨q1, q2⟩ := q12
        obtain ⟨p1, p2⟩ := p12
        have CX := fun W => RHull_any (x1, x2) (y1, y2) W
        rw [← hGk] at CX
        have HL8 := Lib.hid (show (OU k).length ≤ 8 by rw [hLk]; omega)
        generalize hgk : G k = gk at *
        obtain ⟨⟨z1, z2⟩, er⟩ := gk
        dsimp only at q1 q2 p1 p2 CX HI2 HN2 HS2 hE0
        have CZ := Lib.hid CX
        clear CX hgk hGk hLk HN
        subst hE0
        go_upto_region 8 with fail
        refine region_all 15 8 40 [(12, 9), (13, 41)] [(none, []), (none, []), (none, []), (none, []), (none, []), (none, []), (none, []), (none, []), (none, []), (none, []), (none, []), (none, []), (some 0, []), (some 1, [0]), (none, [])] [(24, (.slice (some ⟨bu, ou, none⟩) l.length ca)), (25, (.int .i64 (k : Int))), (26, (.pointer (some ⟨bu, ou + k * 2, none⟩))), (27, (.agg #[.int .i64 x1, .int .i64 x2])), (28, (.slice (some ⟨bv, ov', none⟩) l.length cb)), (29, (.int .i64 (k : Int))), (30, (.pointer (some ⟨bv, ov' + k * 2, none⟩))), (31, (.agg #[.int .i64 y1, .int .i64 y2])), (32, (.tuple #[.agg #[.int .i64 z1, .int .i64 z2], .int .i64 0])), (23, (.tuple #[.agg #[.int .i64 z1, .int .i64 z2], .int .i64 0])), (33, (.agg #[.int .i64 z1, .int .i64 z2])), (34, (.int .i64 0)), (10, (.int .i64 0))] (fun bsE vsE W => BxQ wr z1 z2 (bsE.getD 0 false) (bsE.getD 1 false) (vsE.getD 0 undef) W) (by kernel_rfl) (by kernel_rfl) rfl rfl (by kernel_rfl) (by rfl) ?h0 ?each ?done
        case h0 =>
          intro vsE hlv
          obtain ⟨v0, vsE0, rfl, hlv0⟩ := len_one hlv
          obtain ⟨v1, vsE1, rfl, hlv1⟩ := len_one hlv0
          obtain rfl := len_nil hlv1
          exact ⟨(Below.refl _ _).drew, (fun e => by cases e), (fun e => by cases e)⟩
        case each =>
          simp only [AllE]
          refine ⟨?_, ?_, ?_, ?_, ?_, ?_, ?_, ?_, ?_, ?_, ?_, ?_, ?_, ?_, ?_, trivial⟩
          · refine ⟨24, (.slice (some ⟨bu, ou, none⟩) l.length ca), rfl, by kernel_rfl, ?_⟩
            intro bsE vsE W hlb hlv hnd h
            obtain ⟨b0, bsE0, rfl, hlb0⟩ := len_one hlb
            obtain ⟨v0, vsE0, rfl, hlv0⟩ := len_one hlv
            obtain ⟨b1, bsE1, rfl, hlb1⟩ := len_one hlb0
            obtain ⟨v1, vsE1, rfl, hlv1⟩ := len_one hlv0
            obtain rfl := len_nil hlb1
            obtain rfl := len_nil hlv1
            replace h : BxQ wr z1 z2 b0 b1 v0 W := h
            clear hnd
            have HST := Lib.hid h
            have g1 := cell_step q1 h.bel; have g2 := cell_step q2 h.bel; have g3 := cell_step p1 h.bel; have g4 := cell_step p2 h.bel; have gs := h.bel.size
            intro K Q hK
            simp only [putE, updAll, Act.put, List.setIfInBounds_toArray, List.set_cons_zero, List.set_cons_succ, List.set_nil] at hK ⊢
            go_wp2_with (fail)
            all_goals (first | exact hK _ (by first | exact h | exact h.step (by first | assumption | (repeat' (first | exact Below.refl _ _ | apply bDrewN | apply bDrew)))) | exact (by first | exact h | exact h.step (by first | assumption | (repeat' (first | exact Below.refl _ _ | apply bDrewN | apply bDrew)))))
          · refine ⟨25, (.int .i64 (k : Int)), rfl, by kernel_rfl, ?_⟩
            intro bsE vsE W hlb hlv hnd h
            obtain ⟨b0, bsE0, rfl, hlb0⟩ := len_one hlb
            obtain ⟨v0, vsE0, rfl, hlv0⟩ := len_one hlv
            obtain ⟨b1, bsE1, rfl, hlb1⟩ := len_one hlb0
            obtain ⟨v1, vsE1, rfl, hlv1⟩ := len_one hlv0
            obtain rfl := len_nil hlb1
            obtain rfl := len_nil hlv1
            replace h : BxQ wr z1 z2 b0 b1 v0 W := h
            clear hnd
            have HST := Lib.hid h
            have g1 := cell_step q1 h.bel; have g2 := cell_step q2 h.bel; have g3 := cell_step p1 h.bel; have g4 := cell_step p2 h.bel; have gs := h.bel.size
            intro K Q hK
            simp only [putE, updAll, Act.put, List.setIfInBounds_toArray, List.set_cons_zero, List.set_cons_succ, List.set_nil] at hK ⊢
            go_wp2_with (fail)
            all_goals (first | exact hK _ (by first | exact h | exact h.step (by first | assumption | (repeat' (first | exact Below.refl _ _ | apply bDrewN | apply bDrew)))) | exact (by first | exact h | exact h.step (by first | assumption | (repeat' (first | exact Below.refl _ _ | apply bDrewN | apply bDrew)))))
          · refine ⟨26, (.pointer (some ⟨bu, ou + k * 2, none⟩)), rfl, by kernel_rfl, ?_⟩
            intro bsE vsE W hlb hlv hnd h
            obtain ⟨b0, bsE0, rfl, hlb0⟩ := len_one hlb
            obtain ⟨v0, vsE0, rfl, hlv0⟩ := len_one hlv
            obtain ⟨b1, bsE1, rfl, hlb1⟩ := len_one hlb0
            obtain ⟨v1, vsE1, rfl, hlv1⟩ := len_one hlv0
            obtain rfl := len_nil hlb1
            obtain rfl := len_nil hlv1
            replace h : BxQ wr z1 z2 b0 b1 v0 W := h
            clear hnd
            have HST := Lib.hid h
            have g1 := cell_step q1 h.bel; have g2 := cell_step q2 h.bel; have g3 := cell_step p1 h.bel; have g4 := cell_step p2 h.bel; have gs := h.bel.size
            intro K Q hK
            simp only [putE, updAll, Act.put, List.setIfInBounds_toArray, List.set_cons_zero, List.set_cons_succ, List.set_nil] at hK ⊢
            go_wp2_with (fail)
            all_goals (first | exact hK _ (by first | exact h | exact h.step (by first | assumption | (repeat' (first | exact Below.refl _ _ | apply bDrewN | apply bDrew)))) | exact (by first | exact h | exact h.step (by first | assumption | (repeat' (first | exact Below.refl _ _ | apply bDrewN | apply bDrew)))))
          · refine ⟨27, (.agg #[.int .i64 x1, .int .i64 x2]), rfl, by kernel_rfl, ?_⟩
            intro bsE vsE W hlb hlv hnd h
            obtain ⟨b0, bsE0, rfl, hlb0⟩ := len_one hlb
            obtain ⟨v0, vsE0, rfl, hlv0⟩ := len_one hlv
            obtain ⟨b1, bsE1, rfl, hlb1⟩ := len_one hlb0
            obtain ⟨v1, vsE1, rfl, hlv1⟩ := len_one hlv0
            obtain rfl := len_nil hlb1
            obtain rfl := len_nil hlv1
            replace h : BxQ wr z1 z2 b0 b1 v0 W := h
            clear hnd
            have HST := Lib.hid h
            have g1 := cell_step q1 h.bel; have g2 := cell_step q2 h.bel; have g3 := cell_step p1 h.bel; have g4 := cell_step p2 h.bel; have gs := h.bel.size
            intro K Q hK
            simp only [putE, updAll, Act.put, List.setIfInBounds_toArray, List.set_cons_zero, List.set_cons_succ, List.set_nil] at hK ⊢
            go_wp2_with (fail)
            all_goals (first | exact hK _ (by first | exact h | exact h.step (by first | assumption | (repeat' (first | exact Below.refl _ _ | apply bDrewN | apply bDrew)))) | exact (by first | exact h | exact h.step (by first | assumption | (repeat' (first | exact Below.refl _ _ | apply bDrewN | apply bDrew)))))
          · refine ⟨28, (.slice (some ⟨bv, ov', none⟩) l.length cb), rfl, by kernel_rfl, ?_⟩
            intro bsE vsE W hlb hlv hnd h
            obtain ⟨b0, bsE0, rfl, hlb0⟩ := len_one hlb
            obtain ⟨v0, vsE0, rfl, hlv0⟩ := len_one hlv
            obtain ⟨b1, bsE1, rfl, hlb1⟩ := len_one hlb0
            obtain ⟨v1, vsE1, rfl, hlv1⟩ := len_one hlv0
            obtain rfl := len_nil hlb1
            obtain rfl := len_nil hlv1
            replace h : BxQ wr z1 z2 b0 b1 v0 W := h
            clear hnd
            have HST := Lib.hid h
            have g1 := cell_step q1 h.bel; have g2 := cell_step q2 h.bel; have g3 := cell_step p1 h.bel; have g4 := cell_step p2 h.bel; have gs := h.bel.size
            intro K Q hK
            simp only [putE, updAll, Act.put, List.setIfInBounds_toArray, List.set_cons_zero, List.set_cons_succ, List.set_nil] at hK ⊢
            go_wp2_with (fail)
            all_goals (first | exact hK _ (by first | exact h | exact h.step (by first | assumption | (repeat' (first | exact Below.refl _ _ | apply bDrewN | apply bDrew)))) | exact (by first | exact h | exact h.step (by first | assumption | (repeat' (first | exact Below.refl _ _ | apply bDrewN | apply bDrew)))))
          · refine ⟨29, (.int .i64 (k : Int)), rfl, by kernel_rfl, ?_⟩
            intro bsE vsE W hlb hlv hnd h
            obtain ⟨b0, bsE0, rfl, hlb0⟩ := len_one hlb
            obtain ⟨v0, vsE0, rfl, hlv0⟩ := len_one hlv
            obtain ⟨b1, bsE1, rfl, hlb1⟩ := len_one hlb0
            obtain ⟨v1, vsE1, rfl, hlv1⟩ := len_one hlv0
            obtain rfl := len_nil hlb1
            obtain rfl := len_nil hlv1
            replace h : BxQ wr z1 z2 b0 b1 v0 W := h
            clear hnd
            have HST := Lib.hid h
            have g1 := cell_step q1 h.bel; have g2 := cell_step q2 h.bel; have g3 := cell_step p1 h.bel; have g4 := cell_step p2 h.bel; have gs := h.bel.size
            intro K Q hK
            simp only [putE, updAll, Act.put, List.setIfInBounds_toArray, List.set_cons_zero, List.set_cons_succ, List.set_nil] at hK ⊢
            go_wp2_with (fail)
            all_goals (first | exact hK _ (by first | exact h | exact h.step (by first | assumption | (repeat' (first | exact Below.refl _ _ | apply bDrewN | apply bDrew)))) | exact (by first | exact h | exact h.step (by first | assumption | (repeat' (first | exact Below.refl _ _ | apply bDrewN | apply bDrew)))))
          · refine ⟨30, (.pointer (some ⟨bv, ov' + k * 2, none⟩)), rfl, by kernel_rfl, ?_⟩
            intro bsE vsE W hlb hlv hnd h
            obtain ⟨b0, bsE0, rfl, hlb0⟩ := len_one hlb
            obtain ⟨v0, vsE0, rfl, hlv0⟩ := len_one hlv
            obtain ⟨b1, bsE1, rfl, hlb1⟩ := len_one hlb0
            obtain ⟨v1, vsE1, rfl, hlv1⟩ := len_one hlv0
            obtain rfl := len_nil hlb1
            obtain rfl := len_nil hlv1
            replace h : BxQ wr z1 z2 b0 b1 v0 W := h
            clear hnd
            have HST := Lib.hid h
            have g1 := cell_step q1 h.bel; have g2 := cell_step q2 h.bel; have g3 := cell_step p1 h.bel; have g4 := cell_step p2 h.bel; have gs := h.bel.size
            intro K Q hK
            simp only [putE, updAll, Act.put, List.setIfInBounds_toArray, List.set_cons_zero, List.set_cons_succ, List.set_nil] at hK ⊢
            go_wp2_with (fail)
            all_goals (first | exact hK _ (by first | exact h | exact h.step (by first | assumption | (repeat' (first | exact Below.refl _ _ | apply bDrewN | apply bDrew)))) | exact (by first | exact h | exact h.step (by first | assumption | (repeat' (first | exact Below.refl _ _ | apply bDrewN | apply bDrew)))))
          · refine ⟨31, (.agg #[.int .i64 y1, .int .i64 y2]), rfl, by kernel_rfl, ?_⟩
            intro bsE vsE W hlb hlv hnd h
            obtain ⟨b0, bsE0, rfl, hlb0⟩ := len_one hlb
            obtain ⟨v0, vsE0, rfl, hlv0⟩ := len_one hlv
            obtain ⟨b1, bsE1, rfl, hlb1⟩ := len_one hlb0
            obtain ⟨v1, vsE1, rfl, hlv1⟩ := len_one hlv0
            obtain rfl := len_nil hlb1
            obtain rfl := len_nil hlv1
            replace h : BxQ wr z1 z2 b0 b1 v0 W := h
            clear hnd
            have HST := Lib.hid h
            have g1 := cell_step q1 h.bel; have g2 := cell_step q2 h.bel; have g3 := cell_step p1 h.bel; have g4 := cell_step p2 h.bel; have gs := h.bel.size
            intro K Q hK
            simp only [putE, updAll, Act.put, List.setIfInBounds_toArray, List.set_cons_zero, List.set_cons_succ, List.set_nil] at hK ⊢
            go_wp2_with (fail)
            all_goals (first | exact hK _ (by first | exact h | exact h.step (by first | assumption | (repeat' (first | exact Below.refl _ _ | apply bDrewN | apply bDrew)))) | exact (by first | exact h | exact h.step (by first | assumption | (repeat' (first | exact Below.refl _ _ | apply bDrewN | apply bDrew)))))
          · refine ⟨32, (.tuple #[.agg #[.int .i64 z1, .int .i64 z2], .int .i64 0]), rfl, by kernel_rfl, ?_⟩
            intro bsE vsE W hlb hlv hnd h
            obtain ⟨b0, bsE0, rfl, hlb0⟩ := len_one hlb
            obtain ⟨v0, vsE0, rfl, hlv0⟩ := len_one hlv
            obtain ⟨b1, bsE1, rfl, hlb1⟩ := len_one hlb0
            obtain ⟨v1, vsE1, rfl, hlv1⟩ := len_one hlv0
            obtain rfl := len_nil hlb1
            obtain rfl := len_nil hlv1
            replace h : BxQ wr z1 z2 b0 b1 v0 W := h
            clear hnd
            have HST := Lib.hid h
            have g1 := cell_step q1 h.bel; have g2 := cell_step q2 h.bel; have g3 := cell_step p1 h.bel; have g4 := cell_step p2 h.bel; have gs := h.bel.size
            intro K Q hK
            simp only [putE, updAll, Act.put, List.setIfInBounds_toArray, List.set_cons_zero, List.set_cons_succ, List.set_nil] at hK ⊢
            go_wp2_with (go_at_call 71; refine (CZ.out _).mono ?_; rintro e w9 ⟨rfl, hb9⟩)
            all_goals (first | exact hK _ (by first | exact h | exact h.step (by first | assumption | (repeat' (first | exact Below.refl _ _ | apply bDrewN | apply bDrew)))) | exact (by first | exact h | exact h.step (by first | assumption | (repeat' (first | exact Below.refl _ _ | apply bDrewN | apply bDrew)))))
          · refine ⟨23, (.tuple #[.agg #[.int .i64 z1, .int .i64 z2], .int .i64 0]), rfl, by kernel_rfl, ?_⟩
            intro bsE vsE W hlb hlv hnd h
            obtain ⟨b0, bsE0, rfl, hlb0⟩ := len_one hlb
            obtain ⟨v0, vsE0, rfl, hlv0⟩ := len_one hlv
            obtain ⟨b1, bsE1, rfl, hlb1⟩ := len_one hlb0
            obtain ⟨v1, vsE1, rfl, hlv1⟩ := len_one hlv0
            obtain rfl := len_nil hlb1
            obtain rfl := len_nil hlv1
            replace h : BxQ wr z1 z2 b0 b1 v0 W := h
            clear hnd
            have HST := Lib.hid h
            have g1 := cell_step q1 h.bel; have g2 := cell_step q2 h.bel; have g3 := cell_step p1 h.bel; have g4 := cell_step p2 h.bel; have gs := h.bel.size
            intro K Q hK
            simp only [putE, updAll, Act.put, List.setIfInBounds_toArray, List.set_cons_zero, List.set_cons_succ, List.set_nil] at hK ⊢
            go_wp2_with (fail)
            all_goals (first | exact hK _ (by first | exact h | exact h.step (by first | assumption | (repeat' (first | exact Below.refl _ _ | apply bDrewN | apply bDrew)))) | exact (by first | exact h | exact h.step (by first | assumption | (repeat' (first | exact Below.refl _ _ | apply bDrewN | apply bDrew)))))
          · refine ⟨33, (.agg #[.int .i64 z1, .int .i64 z2]), rfl, by kernel_rfl, ?_⟩
            intro bsE vsE W hlb hlv hnd h
            obtain ⟨b0, bsE0, rfl, hlb0⟩ := len_one hlb
            obtain ⟨v0, vsE0, rfl, hlv0⟩ := len_one hlv
            obtain ⟨b1, bsE1, rfl, hlb1⟩ := len_one hlb0
            obtain ⟨v1, vsE1, rfl, hlv1⟩ := len_one hlv0
            obtain rfl := len_nil hlb1
            obtain rfl := len_nil hlv1
            replace h : BxQ wr z1 z2 b0 b1 v0 W := h
            clear hnd
            have HST := Lib.hid h
            have g1 := cell_step q1 h.bel; have g2 := cell_step q2 h.bel; have g3 := cell_step p1 h.bel; have g4 := cell_step p2 h.bel; have gs := h.bel.size
            intro K Q hK
            simp only [putE, updAll, Act.put, List.setIfInBounds_toArray, List.set_cons_zero, List.set_cons_succ, List.set_nil] at hK ⊢
            go_wp2_with (fail)
            all_goals (first | exact hK _ (by first | exact h | exact h.step (by first | assumption | (repeat' (first | exact Below.refl _ _ | apply bDrewN | apply bDrew)))) | exact (by first | exact h | exact h.step (by first | assumption | (repeat' (first | exact Below.refl _ _ | apply bDrewN | apply bDrew)))))
          · refine ⟨34, (.int .i64 0), rfl, by kernel_rfl, ?_⟩
            intro bsE vsE W hlb hlv hnd h
            obtain ⟨b0, bsE0, rfl, hlb0⟩ := len_one hlb
            obtain ⟨v0, vsE0, rfl, hlv0⟩ := len_one hlv
            obtain ⟨b1, bsE1, rfl, hlb1⟩ := len_one hlb0
            obtain ⟨v1, vsE1, rfl, hlv1⟩ := len_one hlv0
            obtain rfl := len_nil hlb1
            obtain rfl := len_nil hlv1
            replace h : BxQ wr z1 z2 b0 b1 v0 W := h
            clear hnd
            have HST := Lib.hid h
            have g1 := cell_step q1 h.bel; have g2 := cell_step q2 h.bel; have g3 := cell_step p1 h.bel; have g4 := cell_step p2 h.bel; have gs := h.bel.size
            intro K Q hK
            simp only [putE, updAll, Act.put, List.setIfInBounds_toArray, List.set_cons_zero, List.set_cons_succ, List.set_nil] at hK ⊢
            go_wp2_with (fail)
            all_goals (first | exact hK _ (by first | exact h | exact h.step (by first | assumption | (repeat' (first | exact Below.refl _ _ | apply bDrewN | apply bDrew)))) | exact (by first | exact h | exact h.step (by first | assumption | (repeat' (first | exact Below.refl _ _ | apply bDrewN | apply bDrew)))))
          · refine Or.inl ⟨9, rfl, ?_⟩
            intro bsE vsE W hlb hlv hnd hbk h
            obtain ⟨b0, bsE0, rfl, hlb0⟩ := len_one hlb
            obtain ⟨v0, vsE0, rfl, hlv0⟩ := len_one hlv
            obtain ⟨b1, bsE1, rfl, hlb1⟩ := len_one hlb0
            obtain ⟨v1, vsE1, rfl, hlv1⟩ := len_one hlv0
            obtain rfl := len_nil hlb1
            obtain rfl := len_nil hlv1
            obtain rfl : b0 = false := hbk
            replace h : BxQ wr z1 z2 false b1 v0 W := h
            clear hnd
            have HST := Lib.hid h
            have g1 := cell_step q1 h.bel; have g2 := cell_step q2 h.bel; have g3 := cell_step p1 h.bel; have g4 := cell_step p2 h.bel; have gs := h.bel.size
            intro K Q hK
            simp only [putE, updAll, Act.put, List.setIfInBounds_toArray, List.set_cons_zero, List.set_cons_succ, List.set_nil] at hK ⊢
            go_wp2_with fail
            all_goals (first | exact hK _ _ h.mk0' | exact h.mk0')
          · refine Or.inr ⟨rfl, ?_⟩
            intro bsE vsE W hlb hlv hnd hbk h
            obtain ⟨b0, bsE0, rfl, hlb0⟩ := len_one hlb
            obtain ⟨v0, vsE0, rfl, hlv0⟩ := len_one hlv
            obtain ⟨b1, bsE1, rfl, hlb1⟩ := len_one hlb0
            obtain ⟨v1, vsE1, rfl, hlv1⟩ := len_one hlv0
            obtain rfl := len_nil hlb1
            obtain rfl := len_nil hlv1
            obtain rfl : b0 = true := hnd 0 (by simp)
            obtain rfl : b1 = false := hbk
            replace h : BxQ wr z1 z2 true false v0 W := h
            clear hnd
            have HST := Lib.hid h
            obtain ⟨r, rfl⟩ := h.open_; obtain ⟨_, er', hr1, hr2⟩ := h.bx rfl; cases er'; simp only [Bool.false_eq_true, if_false] at hr2; have t0 := blk_cell (o := 0) hr2 rfl; have t1 := blk_cell (o := 1) hr2 rfl; have t2 := blk_free (o := 0) hr2; have t3 := blk_free (o := 1) hr2; have t4 := blk_lt hr2
            intro K Q hK
            simp only [putE, updAll, Act.put, List.setIfInBounds_toArray, List.set_cons_zero, List.set_cons_succ, List.set_nil] at hK ⊢
            go_wp2_with fail
            all_goals (first | exact hK _ h.put | exact h.put)
          · refine ⟨10, (.int .i64 0), rfl, by kernel_rfl, ?_⟩
            intro bsE vsE W hlb hlv hnd h
            obtain ⟨b0, bsE0, rfl, hlb0⟩ := len_one hlb
            obtain ⟨v0, vsE0, rfl, hlv0⟩ := len_one hlv
            obtain ⟨b1, bsE1, rfl, hlb1⟩ := len_one hlb0
            obtain ⟨v1, vsE1, rfl, hlv1⟩ := len_one hlv0
            obtain rfl := len_nil hlb1
            obtain rfl := len_nil hlv1
            replace h : BxQ wr z1 z2 b0 b1 v0 W := h
            clear hnd
            have HST := Lib.hid h
            have g1 := cell_step q1 h.bel; have g2 := cell_step q2 h.bel; have g3 := cell_step p1 h.bel; have g4 := cell_step p2 h.bel; have gs := h.bel.size
            intro K Q hK
            simp only [putE, updAll, Act.put, List.setIfInBounds_toArray, List.set_cons_zero, List.set_cons_succ, List.set_nil] at hK ⊢
            go_wp2_with (fail)
            all_goals (first | exact hK _ (by first | exact h | exact h.step (by first | assumption | (repeat' (first | exact Below.refl _ _ | apply bDrewN | apply bDrew)))) | exact (by first | exact h | exact h.step (by first | assumption | (repeat' (first | exact Below.refl _ _ | apply bDrewN | apply bDrew)))))
        case done =>
          intro vsE W hlv h
          obtain ⟨v0, vsE0, rfl, hlv0⟩ := len_one hlv
          obtain ⟨v1, vsE1, rfl, hlv1⟩ := len_one hlv0
          obtain rfl := len_nil hlv1
          replace h : BxQ wr z1 z2 true true v0 W := h
          have HST := Lib.hid h
          obtain ⟨r, er', hr1, hr2⟩ := h.bx rfl
          subst er'
          simp only [if_true] at hr2
          have t0 := blk_cell (o := 0) hr2 rfl
          have t1 := blk_cell (o := 1) hr2 rfl
          have t4 := blk_lt hr2
          have hbR := h.bel
          have HO2 := Lib.hid (HO.out.step hbR)
          simp only [putE, updAll, Act.put, List.setIfInBounds_toArray, List.set_cons_zero, List.set_cons_succ, List.set_nil]
          have HI3 := Lib.hid (HI2.out rfl)
          clear HI2 HN2
          go_wp2_with (at_builtin; refine wpList_append_own _ rfl (.tmp 35) (.tmp 37) 47 rfl (w.heap.size) 40 i0 (.agg #[.int .i64 0, .int .i64 0]) 2 16 Try.underlying47 hi hz0 hz1 hz2 rfl (by decide) _ _ _ rfl (World.ownsRow.alloc HO2.out _) ⟨_, 0, none⟩ 1 1 [.int .i64 z1, .int .i64 z2] rfl rfl (two_cells _ _ _ _) (two_one _ _) (by have := HL8.out; unfold maxLen; omega) (by have := HL8.out; omega) (by have := hb.size; have := hbR.size; simp; omega) ?_; intro v' w9 hown hgrow _; have kB : Below w.heap.size w w9 := (bAlloc (bStep hb hbR) _).grown hgrow (by have := hb.size; have := hbR.size; simp; omega) (own_ge HO2.out))
          go_roundw
          case rel => exact ⟨k + 1, by omega, by push_cast; rfl, by unfold Hid; rw [HS2.out]; exact SpOwn.more hown, kB, HI3.out⟩
          case measure => (simp [intOf]; omega)
      · obtain rfl : k = l.length := by omega
        have hR : R = (OU l.length, 0) := by rw [HP.out, if_pos (HG2.out (fun j hj => HI.out j hj))]
        have hLk := HN.out l.length
        generalize OU l.length = OK at *
        subst hR
        have hle : ¬ ((l.length : Nat) : Int) < l.length := by omega
        obtain ⟨a9, c9, rfl, -⟩ := HO.out.at_
        have HO3 := SpOwn.row HO.out
        rw [hLk] at HO3
        have HO2 := Lib.hid HO3
        clear HO3
        clear HG1 HG2 HP HS HN HI HGk HO
        go_wp2_with fail
        go_ret2
        exact ⟨_, rfl, HO2.out, (by repeat' (first | exact Below.refl _ _ | assumption | apply bDrewN | apply bDrew | apply bAlloc | (refine bSet ?_ ?_ _) | (refine bStep ?_ (by assumption)) | omega | (simp <;> omega)))⟩
  · have hr : pairsS hullS l m = ([], boxesS l m) := by rw [hp, if_pos h0]
    rw [hr]
    generalize boxesS l m = z at *
    clear hr hp hA hB hl hm
    go_enter Try.func29, Try.ntmps29
    go_wp2_with (go_at_call 68; refine (C.out _ HV.out HU.out).mono ?_; rintro e w1 ⟨rfl, hb1⟩)
    go_ret2
    exact ⟨_, rfl, SpRow.nil, (by repeat' (first | exact Below.refl _ _ | assumption | apply bDrewN | apply bDrew | apply bAlloc | (refine bSet ?_ ?_ _) | (refine bStep ?_ (by assumption)) | omega | (simp <;> omega)))⟩

end Go.Proofs.Ytkldlmbccdfjdaa

/-
  A row that is copied by an append to an empty slice; two such rows and a box, in any order.
-/
set_option linter.unusedSimpArgs false
set_option linter.unusedVariables false
namespace Go.Proofs.Ytkldlmbccdfjdaa
open Go.RowKit
section
variable {P : Program}
theorem firstCells_noneZ {x : Value} (h : ∃ a n c, x = .slice a n c) (size : Nat) (w : World) : (Builtin.firstCells size 0 x).run P w = .ok #[] w := by
  obtain ⟨a, n, c, rfl⟩ := h
  cases a with
  | none => rfl
  | some a =>
    simp only [Builtin.firstCells, Nat.zero_mul]
    have := run_firstCells_some (P := P) w size 0 a n c [] (by simp) (fun j x hx => by simp at hx)
    simpa [Builtin.firstCells] using this
theorem run_append_zeroZ (w : World) (t ty e : TypeId) (i : TypeInfo) (ht : P.underlying t = some (.slice e)) (hi : P.info? e = some i) (base : Option Addr) (n cap : Nat) (h : n ≤ cap) (a : Option Addr) (c : Nat) :
    (Builtin.append_ #[t, t] ty #[.slice base n cap, .slice a 0 c]).run P w = .ok (.slice base n cap) w := by
  have hfc := firstCells_noneZ (P := P) ⟨a, 0, c, rfl⟩ i.size w
  cases base with
  | none => simp [Builtin.append_, run_underlying ht, sizeOf, typeInfo, hi, Builtin.lenOf, h, hfc]
  | some b => simp [Builtin.append_, run_underlying ht, sizeOf, typeInfo, hi, Builtin.lenOf, h, hfc, storeCells]
end
theorem bAlZ {W : World} {o : Obj} : Below W.heap.size W (W.alloc o) := (Below.refl _ _).alloc (Nat.le_refl _) _
theorem run_app_copy (w : World) (v : Value) (B : Nat) (rs : List Int) (hown : IntOwn w B v rs) (src : Option Addr) (xs : List Int) (c : Nat) (hsrc : IntAt src xs w) (hl : rs.length + xs.length ≤ 10000000) (hB : B ≤ w.heap.size) (ty : TypeId) :
    ∃ v' w', (Builtin.append_ #[22, 22] ty #[v, .slice src xs.length c]).run Try.prog w = .ok v' w' ∧ IntOwn w' B v' (rs ++ xs) ∧ w.grownBy w' v.ownBlock ∧ (v'.ownBlock = v.ownBlock ∨ v'.ownBlock = some w.heap.size) := by
  obtain ⟨j0, hj, hy0, hy1, hy2⟩ := info_parts infoI
  by_cases hn : xs = []
  · subst hn
    refine ⟨v, w, ?_, by simpa using hown, ⟨rfl, rfl, rfl, Nat.le_refl _, fun _ _ _ => rfl⟩, Or.inl rfl⟩
    rcases hown.2 with ⟨rfl, -⟩ | ⟨g, cap, cur, rfl, -, -, h4, -⟩
    · exact run_append_zeroZ w _ _ _ _ Try.underlying22 hj _ _ _ (Nat.le_refl _) _ _
    · exact run_append_zeroZ w _ _ _ _ Try.underlying22 hj _ _ _ h4 _ _
  · obtain ⟨b, o, rfl, hlt, hc⟩ := hsrc hn
    obtain ⟨v', w', h1, h2, h3, -, h5⟩ := run_append_own_at (P := Try.prog) w B 22 ty 2 j0 (.int .i64 0) 1 8 Try.underlying22 hj hy0 hy1 hy2 rfl (by decide) v rs.length (flatI rs) hown ⟨b, o, none⟩ xs.length c (flatI xs) (by simp [flatI])
      (fun j u hj => by
        have hjl : j < xs.length := by
          have := (List.getElem?_eq_some_iff.1 hj).1
          simpa [flatI] using this
        have hf : (flatI xs)[j]? = some (.int .i64 (xs.getD j 0)) := by simp [flatI, List.getD_eq_getElem?_getD, List.getElem?_eq_getElem hjl]
        rw [hf] at hj
        obtain rfl := Option.some.inj hj
        have := hc j hjl
        unfold Addr.add
        by_cases e : j = 0
        · subst e; simpa using this
        · rw [if_neg e]; exact this)
      flatI_one (by unfold maxLen; omega) (by omega) hB
    refine ⟨v', w', h1, ?_, h3, h5⟩
    have : IntOwn w' B v' (rs ++ xs) := by
      unfold IntOwn
      rw [List.length_append, show flatI (rs ++ xs) = flatI rs ++ flatI xs from by simp [flatI]]
      exact h2
    exact this
theorem wp_app_copy (w : World) {o : Oper} {a : Act} {K : Act → World → Prop} {Q : Exit → Act → World → Prop} (s x : Operand) (ho : o.op = .call { callee := .builtin .append, args := #[s, x], argTypes := #[22, 22] })
    (v : Value) (hs : a.eval s = v) (B : Nat) (rs : List Int) (hown : IntOwn w B v rs) (src : Option Addr) (xs : List Int) (c : Nat) (hx : a.eval x = .slice src xs.length c) (hsrc : IntAt src xs w) (hl : rs.length + xs.length ≤ 10000000) (hB : B ≤ w.heap.size)
    (h : ∀ v' w', IntOwn w' B v' (rs ++ xs) → w.grownBy w' v.ownBlock → (v'.ownBlock = v.ownBlock ∨ v'.ownBlock = some w.heap.size) → K (a.put o.dst v') w') : o.wp Try.prog a w K Q := by
  obtain ⟨v', w', hr, h2, h3, h5⟩ := run_app_copy w v B rs hown src xs c hsrc hl hB o.type
  unfold Oper.wp execOp
  simp only [ho, resolve, invoke, builtin, Sem.run_bind, Sem.run_pure, Result.andThen_ok, List.map_toArray, List.map_cons, List.map_nil, hs, hx, hr]
  exact h v' w' h2 h3 h5

theorem wpList_app_copy {ops : Array Oper} {rest : List Oper} (w : World) {o : Oper} {a : Act} {Q : Exit → Act → World → Prop} (hgd : o.guard = none) (s x : Operand) (ho : o.op = .call { callee := .builtin .append, args := #[s, x], argTypes := #[22, 22] })
    (v : Value) (hs : a.eval s = v) (B : Nat) (rs : List Int) (hown : IntOwn w B v rs) (src : Option Addr) (xs : List Int) (c : Nat) (hx : a.eval x = .slice src xs.length c) (hsrc : IntAt src xs w) (hl : rs.length + xs.length ≤ 10000000) (hB : B ≤ w.heap.size)
    (h : ∀ v' w', IntOwn w' B v' (rs ++ xs) → w.grownBy w' v.ownBlock → (v'.ownBlock = v.ownBlock ∨ v'.ownBlock = some w.heap.size) → wpList Try.prog ops Q rest (a.put o.dst v') w') : wpList Try.prog ops Q (o :: rest) a w :=
  wpList_plain hgd fun _ hK => wp_app_copy w s x ho v hs B rs hown src xs c hx hsrc hl hB fun v' w' h2 h3 h5 => hK _ _ (h v' w' h2 h3 h5)

/-- Two rows that are being copied, and a box: objects that stay. -/
structure TwoQ (w : World) (L : List (Nat × Obj)) (B : Nat) (xs ys : List Int) (b0 b1 b2 b3 b4 : Bool) (v0 v1 v2 v3 v4 : Value) (W : World) : Prop where
  hB : w.heap.size ≤ B
  hL : ∀ p ∈ L, p.1 < B
  bel : Below w.heap.size w W
  sz : B ≤ W.heap.size
  sb : ∀ p ∈ L, W.heap[p.1]? = some p.2
  i1 : b1 = true → b0 = true
  i3 : b3 = true → b2 = true
  ox : b0 = true → IntOwn W B (cond b1 v1 v0) (cond b1 xs [])
  oy : b2 = true → IntOwn W B (cond b3 v3 v2) (cond b3 ys [])
  far : b0 = true → b2 = true → Far (cond b1 v1 v0) (cond b3 v3 v2)
  bx : b4 = true → ∃ r, v4 = .pointer (some ⟨r, 0, none⟩) ∧ B ≤ r ∧ W.heap[r]? = some (.cells zCurve 24)
section
variable {w W w2 : World} {L : List (Nat × Obj)} {B : Nat} {xs ys : List Int} {b0 b1 b2 b3 b4 : Bool} {v0 v1 v2 v3 v4 : Value}
theorem TwoQ.swap (h : TwoQ w L B xs ys b0 b1 b2 b3 b4 v0 v1 v2 v3 v4 W) : TwoQ w L B ys xs b2 b3 b0 b1 b4 v2 v3 v0 v1 v4 W :=
  ⟨h.hB, h.hL, h.bel, h.sz, h.sb, h.i3, h.i1, h.oy, h.ox, fun e e' => (h.far e' e).symm, h.bx⟩
theorem TwoQ.start (hB : w.heap.size ≤ B) (hL : ∀ p ∈ L, p.1 < B) (bel : Below w.heap.size w W) (sz : B ≤ W.heap.size) (sb : ∀ p ∈ L, W.heap[p.1]? = some p.2) : TwoQ w L B xs ys false false false false false v0 v1 v2 v3 v4 W :=
  ⟨hB, hL, bel, sz, sb, (fun e => by cases e), (fun e => by cases e), (fun e => by cases e), (fun e => by cases e), (fun e => by cases e), (fun e => by cases e)⟩
theorem TwoQ.step (h : TwoQ w L B xs ys b0 b1 b2 b3 b4 v0 v1 v2 v3 v4 W) (hb : Below W.heap.size W w2) : TwoQ w L B xs ys b0 b1 b2 b3 b4 v0 v1 v2 v3 v4 w2 :=
  ⟨h.hB, h.hL, bStep h.bel hb, Nat.le_trans h.sz hb.size, fun p hp => blk_step (h.sb p hp) hb, h.i1, h.i3, fun e => (h.ox e).step hb, fun e => (h.oy e).step hb, h.far, fun e => by
    obtain ⟨r, e1, e2, e3⟩ := h.bx e
    exact ⟨r, e1, e2, blk_step e3 hb⟩⟩
theorem own_new {W : World} {B : Nat} (hB : B ≤ W.heap.size) : IntOwn (W.alloc (.cells #[] 2)) B (.slice (some ⟨W.heap.size, 0, none⟩) 0 0) [] :=
  ⟨rfl, Or.inr ⟨_, _, _, rfl, hB, blk_new W _, Nat.le_refl _, by decide, rfl, rfl⟩⟩
theorem TwoQ.mk0 (h : TwoQ w L B xs ys false false b2 b3 b4 v0 v1 v2 v3 v4 W) : TwoQ w L B xs ys true false b2 b3 b4 (.slice (some ⟨W.heap.size, 0, none⟩) 0 0) v1 v2 v3 v4 (W.alloc (.cells #[] 2)) := by
  have k := h.step (bAlZ (o := .cells #[] 2))
  exact ⟨k.hB, k.hL, k.bel, k.sz, k.sb, fun _ => rfl, k.i3, fun _ => own_new h.sz, k.oy, fun _ e q e1 e2 => by
    have := ((h.oy e).lt q e2).2
    simp [cond, Value.ownBlock] at e1
    omega, k.bx⟩
theorem own_type {B g : Nat} {v : Value} {xs : List Int} (h : IntOwn W B v xs) (hg : v.ownBlock = some g) : ∃ cur, W.heap[g]? = some (.cells cur 2 (0, 0)) := by
  rcases h.2 with ⟨rfl, -⟩ | ⟨g', cap, cur, rfl, -, h3, -⟩
  · cases hg
  · obtain rfl := Option.some.inj hg
    exact ⟨cur, h3⟩
theorem own_no {B r : Nat} {v : Value} {xs : List Int} {cs : Array Value} (h : IntOwn W B v xs) (hr : W.heap[r]? = some (.cells cs 24)) : some r ≠ v.ownBlock := fun e => by
  obtain ⟨cur, hc⟩ := own_type h e.symm
  rw [hr] at hc
  have := Option.some.inj hc
  injection this with _ h2 _
  revert h2
  decide
theorem TwoQ.mk1 {v' : Value} {w' : World} (h : TwoQ w L B xs ys true false b2 b3 b4 v0 v1 v2 v3 v4 W) (ho : IntOwn w' B v' ([] ++ xs)) (hg : W.grownBy w' v0.ownBlock) (hat : v'.ownBlock = v0.ownBlock ∨ v'.ownBlock = some W.heap.size) : TwoQ w L B xs ys true true b2 b3 b4 v0 v' v2 v3 v4 w' := by
  have hB := h.hB
  have h0 : IntOwn W B v0 [] := h.ox rfl
  have hr := own_ge h0
  have hlt : ∀ b, b < B → some b ≠ v0.ownBlock := fun b hb e => by have := hr _ e.symm; omega
  refine ⟨h.hB, h.hL, h.bel.grown hg (by have := h.bel.size; omega) fun k hk => by have := hr k hk; omega, Nat.le_trans h.sz hg.size, fun p hp => blk_grown (h.sb p hp) hg (hlt _ (h.hL p hp)), fun _ => rfl, h.i3, fun _ => by simpa using ho, fun e => World.ownsRow.kept (h.oy e) hg (h.far rfl e).symm.ne, fun _ e k e1 e2 => ?_, fun e => ?_⟩
  · rcases hat with q | q
    · exact h.far rfl e k (q.symm.trans e1) e2
    · have := ((h.oy e).lt k e2).2
      have e1' : v'.ownBlock = some k := e1
      rw [q] at e1'
      simp at e1'
      omega
  · obtain ⟨r, q1, q2, q3⟩ := h.bx e
    exact ⟨r, q1, q2, blk_grown q3 hg (own_no h0 q3)⟩
theorem TwoQ.mk4 (h : TwoQ w L B xs ys b0 b1 b2 b3 false v0 v1 v2 v3 v4 W) : TwoQ w L B xs ys b0 b1 b2 b3 true v0 v1 v2 v3 (.pointer (some ⟨W.heap.size, 0, none⟩)) (W.alloc (.cells zCurve 24)) := by
  have k := h.step (bAlZ (o := .cells zCurve 24))
  exact ⟨k.hB, k.hL, k.bel, k.sz, k.sb, k.i1, k.i3, k.ox, k.oy, k.far, fun _ => ⟨_, rfl, h.sz, blk_new W _⟩⟩
structure TwoA (w : World) (L : List (Nat × Obj)) (B : Nat) (xs ys : List Int) (b0 b1 b2 b3 b4 b5 : Bool) (v0 v1 v2 v3 v4 v5 : Value) (W : World) : Prop where
  two : TwoQ w L B xs ys b0 b1 b2 b3 b5 v0 v1 v2 v3 v5 W
  ag : b4 = true → v4 = .agg #[v1, v3] ∧ b1 = true ∧ b3 = true
/-- What stands behind: a box with two rows. -/
structure PRow (w : World) (L : List (Nat × Obj)) (r : Nat) (a b : Option Addr) (ca cb : Nat) (xs ys : List Int) (W : World) : Prop where
  bel : Below w.heap.size w W
  sb : ∀ p ∈ L, W.heap[p.1]? = some p.2
  bx : W.heap[r]? = some (.cells #[.slice a xs.length ca, .slice b ys.length cb] 24)
  rx : IntAt a xs W
  ry : IntAt b ys W
theorem PRow.step {r : Nat} {a b : Option Addr} {ca cb : Nat} (h : PRow w L r a b ca cb xs ys W) (hb : Below W.heap.size W w2) : PRow w L r a b ca cb xs ys w2 :=
  ⟨bStep h.bel hb, fun p hp => blk_step (h.sb p hp) hb, blk_step h.bx hb, h.rx.step hb, h.ry.step hb⟩
theorem TwoQ.fin (h : TwoQ w L B xs ys true true true true true v0 v1 v2 v3 v4 W) : ∃ r a b ca cb, v4 = .pointer (some ⟨r, 0, none⟩) ∧ v1 = .slice a xs.length ca ∧ v3 = .slice b ys.length cb ∧ W.heap[r]? = some (.cells zCurve 24) ∧
    PRow w L r a b ca cb xs ys ((W.setCell ⟨r, 0, none⟩ v1).setCell ⟨r, 1, none⟩ v3) := by
  obtain ⟨r, q1, q2, q3⟩ := h.bx rfl
  have hx : IntOwn W B v1 xs := h.ox rfl
  have hy : IntOwn W B v3 ys := h.oy rfl
  have nx := own_no hx q3
  have ny := own_no hy q3
  have hx2 : IntOwn ((W.setCell ⟨r, 0, none⟩ v1).setCell ⟨r, 1, none⟩ v3) B v1 xs := ownsRow_setCell_other (ownsRow_setCell_other hx (Ne.symm nx) _) (Ne.symm nx) _
  have hy2 : IntOwn ((W.setCell ⟨r, 0, none⟩ v1).setCell ⟨r, 1, none⟩ v3) B v3 ys := ownsRow_setCell_other (ownsRow_setCell_other hy (Ne.symm ny) _) (Ne.symm ny) _
  obtain ⟨a, ca, rfl, hra⟩ := hx2.row
  obtain ⟨b, cb, rfl, hrb⟩ := hy2.row
  have hB := h.hB
  exact ⟨r, a, b, ca, cb, q1, rfl, rfl, q3, ⟨(h.bel.setCell (by show w.heap.size ≤ r; omega) _).setCell (by show w.heap.size ≤ r; omega) _, fun p hp => blk_set_other (blk_set_other (h.sb p hp) (by show p.1 ≠ r; have := h.hL p hp; omega)) (by show p.1 ≠ r; have := h.hL p hp; omega), (blk_set (blk_set q3)).trans rfl, hra, hrb⟩⟩
end
end Go.Proofs.Ytkldlmbccdfjdaa

/-
  Widest of both sides; the reference's Halve.
-/
set_option linter.unusedSimpArgs false
set_option linter.unusedVariables false
namespace Go.Proofs.Ytkldlmbccdfjdaa
open Go.RowKit
def widW (l : List (Int × Int)) (k : Nat) : Int := (l.getD k (0, 0)).2 - (l.getD k (0, 0)).1
def bestW (l : List (Int × Int)) : Nat → Nat
  | 0 => 0
  | k + 1 => if widW l (bestW l k) < widW l k then k else bestW l k
theorem bestW_lt (l : List (Int × Int)) : ∀ k, bestW l k ≤ k - 1
  | 0 => Nat.le_refl _
  | k + 1 => by
    have := bestW_lt l k
    unfold bestW
    split <;> omega
theorem bestW_one (l : List (Int × Int)) : bestW l 1 = 0 := by simp [bestW]
def widestS (l : List (Int × Int)) : Int × Int := if checkB l ≠ 0 then (0, checkB l) else if l = [] then (0, 5) else (((bestW l l.length : Nat) : Int), 0)
set_option maxHeartbeats 4000000 in
set_option maxRecDepth 20000 in
theorem Widest_row (v : Value) (l : List (Int × Int)) (w : World) (hl : l.length ≤ 1000000) (hv : SpRow v l w) :
    Calls Try.prog 30 #[v] w fun e w' => e = .returned (.tuple #[.int .i64 (widestS l).1, .int .i64 (widestS l).2]) ∧ Below w.heap.size w w' := by
  have C := Lib.hid (fun w h => CheckBox_row v l w (by omega) h)
  have HV := Lib.hid hv
  obtain ⟨a, ca, rfl, hA⟩ := hv
  by_cases h0 : checkB l = 0
  · by_cases hn : l = []
    · have hr : widestS l = (0, 5) := by unfold widestS; rw [if_neg (fun h => h h0), if_pos hn]
      rw [hr]
      rw [h0] at C
      subst hn
      clear hr hA h0
      go_enter Try.func30, Try.ntmps30
      go_wp2_with (go_at_call 19; refine (C.out _ HV.out).mono ?_; rintro e w1 ⟨rfl, hb1⟩)
      exact bodyPost_ret (v := .tuple #[.int .i64 0, .int .i64 5]) (by simp only [results, Try.results30]; go_simp) rfl ⟨rfl, (by repeat' (first | exact Below.refl _ _ | assumption | apply bDrewN | apply bDrew | apply bAlloc | (refine bSet ?_ ?_ _) | (refine bStep ?_ (by assumption)) | omega | (simp <;> omega)))⟩
    · have hr : widestS l = (((bestW l l.length : Nat) : Int), 0) := by unfold widestS; rw [if_neg (fun h => h h0), if_neg hn]
      obtain ⟨h8, hok⟩ := checkB_ok.1 h0
      have hok' := Lib.hid (all_ok.1 hok)
      rw [h0] at C
      have hp : 0 < l.length := List.length_pos_iff.2 hn
      have hp' : ¬ (l.length : Int) = 0 := by omega
      obtain ⟨b, o, rfl, hc⟩ := hA hn
      have HC := Lib.hid hc
      have HR := Lib.hid hr
      have HB := Lib.hid (bestW_lt l)
      have HS := Lib.hid (fun k => show bestW l (k + 1) = if widW l (bestW l k) < widW l k then k else bestW l k from rfl)
      have HD := Lib.hid (fun k => show widW l k = (l.getD k (0, 0)).2 - (l.getD k (0, 0)).1 from rfl)
      have H1 := Lib.hid (bestW_one l)
      have H0 := Lib.hid (show bestW l 0 = 0 from rfl)
      generalize bestW l = BW at *
      generalize widW l = WD at *
      generalize widestS l = R at *
      clear hr hc hok h0 hl
      go_enter Try.func30, Try.ntmps30
      go_wp2_with (go_at_call 19; refine (C.out _ HV.out).mono ?_; rintro e w1 ⟨rfl, hb1⟩)
      go_loopw [18, 5] (fun i b wr => ∃ k : Nat, 0 ≤ k ∧ k ≤ l.length ∧ i = .int .i64 k ∧ b = .int .i64 (BW k : Nat) ∧ Hid (Below w.heap.size w wr)) (fun i _ _ => l.length - (intOf i).toNat)
      case atStart => exact ⟨0, by omega, by omega, rfl, by rw [H0.out]; rfl, hb1⟩
      case round =>
        obtain ⟨k, hk0, hk, rfl, rfl, HW⟩ := hrel
        have hb := HW.out
        by_cases hlt : k < l.length
        · have hbk := HB.out k
          have q12 := (HC.out.step HW.out).2 k hlt
          have r12 := (HC.out.step HW.out).2 (BW k) (by omega)
          have lu := (HC.out.step HW.out).1
          have bx := okS_bd (hok'.out k hlt)
          have by_ := okS_bd (hok'.out (BW k) (by omega))
          have hS := HS.out k
          rw [HD.out k, HD.out (BW k)] at hS
          have hlt2 : (k : Int) < l.length := by omega
          have hlt3 : ((BW k : Nat) : Int) < l.length := by omega
          have hs4 : (0 : Int) ≤ ((BW k : Nat) : Int) := by omega
          have hs5 : (0 : Int) ≤ (k : Int) := by omega
          generalize l.getD k (0, 0) = x at *
          generalize l.getD (BW k) (0, 0) = y at *
          obtain ⟨x1, x2⟩ := x
          obtain ⟨y1, y2⟩ := y
          obtain ⟨q1, q2⟩ := q12
          obtain ⟨p1, p2⟩ := r12
          dsimp only at *
          obtain ⟨bx1, bx2, bx3⟩ := bx
          obtain ⟨by1, by2, by3⟩ := by_
          have a1 : IntKind.i64.wrap (x2 - x1) = x2 - x1 := Go.IntWalk.i64_in _ ⟨by omega, by omega⟩
          have a2 : IntKind.i64.wrap (y2 - y1) = y2 - y1 := Go.IntWalk.i64_in _ ⟨by omega, by omega⟩
          have HS2 := Lib.hid hS
          clear HC hok' HS HD hS hbk
          by_cases hw : y2 - y1 < x2 - x1
          · have hS3 := HS2.out
            rw [if_pos hw] at hS3
            have HS3 := Lib.hid hS3
            clear hS3 HS2
            go_wp2_with fail
            go_quiet (fail)
            go_wp2_with fail
            go_roundw
            case rel => exact ⟨k + 1, by omega, by omega, by push_cast; rfl, by rw [HS3.out], (by repeat' (first | exact Below.refl _ _ | assumption | apply bDrewN | apply bDrew | apply bAlloc | (refine bSet ?_ ?_ _) | (refine bStep ?_ (by assumption)) | omega | (simp <;> omega)))⟩
            case measure => (simp [intOf]; omega)
          · have hS3 := HS2.out
            rw [if_neg hw] at hS3
            have HS3 := Lib.hid hS3
            have hd : decide (y2 - y1 < x2 - x1) = false := by simpa using hw
            clear hS3 HS2 hw
            go_wp2_with fail
            go_quiet (fail)
            go_wp2_with fail
            go_roundw
            case rel => exact ⟨k + 1, by omega, by omega, by push_cast; rfl, by rw [HS3.out], (by repeat' (first | exact Below.refl _ _ | assumption | apply bDrewN | apply bDrew | apply bAlloc | (refine bSet ?_ ?_ _) | (refine bStep ?_ (by assumption)) | omega | (simp <;> omega)))⟩
            case measure => (simp [intOf]; omega)
        · obtain rfl : k = l.length := by omega
          have hR := HR.out
          subst hR
          have hle : ¬ ((l.length : Nat) : Int) < l.length := by omega
          clear HS HD HC HB HR hok'
          go_wp2_with fail
          exact bodyPost_ret (v := .tuple #[.int .i64 (BW l.length : Nat), .int .i64 0]) (by simp only [results, Try.results30]; go_simp) rfl ⟨rfl, (by repeat' (first | exact Below.refl _ _ | assumption | apply bDrewN | apply bDrew | apply bAlloc | (refine bSet ?_ ?_ _) | (refine bStep ?_ (by assumption)) | omega | (simp <;> omega)))⟩
  · have hr : widestS l = (0, checkB l) := if_pos h0
    rw [hr]
    generalize checkB l = z at *
    clear hr hA
    go_enter Try.func30, Try.ntmps30
    go_wp2_with (go_at_call 19; refine (C.out _ HV.out).mono ?_; rintro e w1 ⟨rfl, hb1⟩)
    exact bodyPost_ret (v := .tuple #[.int .i64 0, .int .i64 z]) (by simp only [results, Try.results30]; go_simp) rfl ⟨rfl, (by repeat' (first | exact Below.refl _ _ | assumption | apply bDrewN | apply bDrew | apply bAlloc | (refine bSet ?_ ?_ _) | (refine bStep ?_ (by assumption)) | omega | (simp <;> omega)))⟩

set_option maxHeartbeats 4000000 in
set_option maxRecDepth 20000 in
theorem RWidest_row (v : Value) (l : List (Int × Int)) (w : World) (hl : l.length ≤ 1000000) (hv : SpRow v l w) :
    Calls Try.prog 31 #[v] w fun e w' => e = .returned (.tuple #[.int .i64 (widestS l).1, .int .i64 (widestS l).2]) ∧ Below w.heap.size w w' := by
  have C := Lib.hid (fun w h => RCheckBox_row v l w (by omega) h)
  have HV := Lib.hid hv
  obtain ⟨a, ca, rfl, hA⟩ := hv
  by_cases h0 : checkB l = 0
  · by_cases hn : l = []
    · have hr : widestS l = (0, 5) := by unfold widestS; rw [if_neg (fun h => h h0), if_pos hn]
      rw [hr]
      rw [h0] at C
      subst hn
      clear hr hA h0
      go_enter Try.func31, Try.ntmps31
      go_wp2_with (go_at_call 20; refine (C.out _ HV.out).mono ?_; rintro e w1 ⟨rfl, hb1⟩)
      exact bodyPost_ret (v := .tuple #[.int .i64 0, .int .i64 5]) (by simp only [results, Try.results31]; go_simp) rfl ⟨rfl, (by repeat' (first | exact Below.refl _ _ | assumption | apply bDrewN | apply bDrew | apply bAlloc | (refine bSet ?_ ?_ _) | (refine bStep ?_ (by assumption)) | omega | (simp <;> omega)))⟩
    · have hr : widestS l = (((bestW l l.length : Nat) : Int), 0) := by unfold widestS; rw [if_neg (fun h => h h0), if_neg hn]
      obtain ⟨h8, hok⟩ := checkB_ok.1 h0
      have hok' := Lib.hid (all_ok.1 hok)
      rw [h0] at C
      have hp : 0 < l.length := List.length_pos_iff.2 hn
      have hp' : ¬ (l.length : Int) = 0 := by omega
      obtain ⟨b, o, rfl, hc⟩ := hA hn
      have HC := Lib.hid hc
      have HR := Lib.hid hr
      have HB := Lib.hid (bestW_lt l)
      have HS := Lib.hid (fun k => show bestW l (k + 1) = if widW l (bestW l k) < widW l k then k else bestW l k from rfl)
      have HD := Lib.hid (fun k => show widW l k = (l.getD k (0, 0)).2 - (l.getD k (0, 0)).1 from rfl)
      have H1 := Lib.hid (bestW_one l)
      have H0 := Lib.hid (show bestW l 0 = 0 from rfl)
      generalize bestW l = BW at *
      generalize widW l = WD at *
      generalize widestS l = R at *
      clear hr hc hok h0 hl
      go_enter Try.func31, Try.ntmps31
      go_wp2_with (go_at_call 20; refine (C.out _ HV.out).mono ?_; rintro e w1 ⟨rfl, hb1⟩)
      go_loopw [6, 5] (fun i b wr => ∃ k : Nat, 1 ≤ k ∧ k ≤ l.length ∧ i = .int .i64 k ∧ b = .int .i64 (BW k : Nat) ∧ Hid (Below w.heap.size w wr)) (fun i _ _ => l.length - (intOf i).toNat)
      case atStart => exact ⟨1, by omega, by omega, rfl, by rw [H1.out]; rfl, hb1⟩
      case round =>
        obtain ⟨k, hk0, hk, rfl, rfl, HW⟩ := hrel
        have hb := HW.out
        by_cases hlt : k < l.length
        · have hbk := HB.out k
          have q12 := (HC.out.step HW.out).2 k hlt
          have r12 := (HC.out.step HW.out).2 (BW k) (by omega)
          have lu := (HC.out.step HW.out).1
          have bx := okS_bd (hok'.out k hlt)
          have by_ := okS_bd (hok'.out (BW k) (by omega))
          have hS := HS.out k
          rw [HD.out k, HD.out (BW k)] at hS
          have hlt2 : (k : Int) < l.length := by omega
          have hlt3 : ((BW k : Nat) : Int) < l.length := by omega
          have hs4 : (0 : Int) ≤ ((BW k : Nat) : Int) := by omega
          have hs5 : (0 : Int) ≤ (k : Int) := by omega
          generalize l.getD k (0, 0) = x at *
          generalize l.getD (BW k) (0, 0) = y at *
          obtain ⟨x1, x2⟩ := x
          obtain ⟨y1, y2⟩ := y
          obtain ⟨q1, q2⟩ := q12
          obtain ⟨p1, p2⟩ := r12
          dsimp only at *
          obtain ⟨bx1, bx2, bx3⟩ := bx
          obtain ⟨by1, by2, by3⟩ := by_
          have a1 : IntKind.i64.wrap (x2 - x1) = x2 - x1 := Go.IntWalk.i64_in _ ⟨by omega, by omega⟩
          have a2 : IntKind.i64.wrap (y2 - y1) = y2 - y1 := Go.IntWalk.i64_in _ ⟨by omega, by omega⟩
          have HS2 := Lib.hid hS
          clear HC hok' HS HD hS hbk
          by_cases hw : y2 - y1 < x2 - x1
          · have hS3 := HS2.out
            rw [if_pos hw] at hS3
            have HS3 := Lib.hid hS3
            clear hS3 HS2
            go_wp2_with fail
            go_quiet (fail)
            go_wp2_with fail
            go_roundw
            case rel => exact ⟨k + 1, by omega, by omega, by push_cast; rfl, by rw [HS3.out], (by repeat' (first | exact Below.refl _ _ | assumption | apply bDrewN | apply bDrew | apply bAlloc | (refine bSet ?_ ?_ _) | (refine bStep ?_ (by assumption)) | omega | (simp <;> omega)))⟩
            case measure => (simp [intOf]; omega)
          · have hS3 := HS2.out
            rw [if_neg hw] at hS3
            have HS3 := Lib.hid hS3
            have hd : decide (y2 - y1 < x2 - x1) = false := by simpa using hw
            clear hS3 HS2 hw
            go_wp2_with fail
            go_quiet (fail)
            go_wp2_with fail
            go_roundw
            case rel => exact ⟨k + 1, by omega, by omega, by push_cast; rfl, by rw [HS3.out], (by repeat' (first | exact Below.refl _ _ | assumption | apply bDrewN | apply bDrew | apply bAlloc | (refine bSet ?_ ?_ _) | (refine bStep ?_ (by assumption)) | omega | (simp <;> omega)))⟩
            case measure => (simp [intOf]; omega)
        · obtain rfl : k = l.length := by omega
          have hR := HR.out
          subst hR
          have hle : ¬ ((l.length : Nat) : Int) < l.length := by omega
          clear HS HD HC HB HR hok'
          go_wp2_with fail
          exact bodyPost_ret (v := .tuple #[.int .i64 (BW l.length : Nat), .int .i64 0]) (by simp only [results, Try.results31]; go_simp) rfl ⟨rfl, (by repeat' (first | exact Below.refl _ _ | assumption | apply bDrewN | apply bDrew | apply bAlloc | (refine bSet ?_ ?_ _) | (refine bStep ?_ (by assumption)) | omega | (simp <;> omega)))⟩
  · have hr : widestS l = (0, checkB l) := if_pos h0
    rw [hr]
    generalize checkB l = z at *
    clear hr hA
    go_enter Try.func31, Try.ntmps31
    go_wp2_with (go_at_call 20; refine (C.out _ HV.out).mono ?_; rintro e w1 ⟨rfl, hb1⟩)
    exact bodyPost_ret (v := .tuple #[.int .i64 0, .int .i64 z]) (by simp only [results, Try.results31]; go_simp) rfl ⟨rfl, (by repeat' (first | exact Below.refl _ _ | assumption | apply bDrewN | apply bDrew | apply bAlloc | (refine bSet ?_ ?_ _) | (refine bStep ?_ (by assumption)) | omega | (simp <;> omega)))⟩

end Go.Proofs.Ytkldlmbccdfjdaa

/-
  The reference's Halve.
-/
set_option linter.unusedSimpArgs false
set_option linter.unusedVariables false
namespace Go.Proofs.Ytkldlmbccdfjdaa
open Go.RowKit
theorem run_app_copyS (w : World) (v : Value) (B : Nat) (rs : List (Int × Int)) (hown : SpOwn w B v rs) (src : Option Addr) (xs : List (Int × Int)) (c : Nat) (hsrc : SpAt src xs w) (hl : rs.length + xs.length ≤ 1000000) (hB : B ≤ w.heap.size) (ty : TypeId) :
    ∃ v' w', (Builtin.append_ #[47, 47] ty #[v, .slice src xs.length c]).run Try.prog w = .ok v' w' ∧ SpOwn w' B v' (rs ++ xs) ∧ w.grownBy w' v.ownBlock ∧ (v'.ownBlock = v.ownBlock ∨ v'.ownBlock = some w.heap.size) := by
  obtain ⟨j0, hj, hy0, hy1, hy2⟩ := info_parts infoSp
  by_cases hn : xs = []
  · subst hn
    refine ⟨v, w, ?_, by simpa using hown, ⟨rfl, rfl, rfl, Nat.le_refl _, fun _ _ _ => rfl⟩, Or.inl rfl⟩
    rcases hown.2 with ⟨rfl, -⟩ | ⟨g, cap, cur, rfl, -, -, h4, -⟩
    · exact run_append_zeroZ w _ _ _ _ Try.underlying47 hj _ _ _ (Nat.le_refl _) _ _
    · exact run_append_zeroZ w _ _ _ _ Try.underlying47 hj _ _ _ h4 _ _
  · obtain ⟨b, o, rfl, hc⟩ := hsrc hn
    obtain ⟨v', w', h1, h2, h3, -, h5⟩ := run_append_own_at (P := Try.prog) w B 47 ty 40 j0 (.agg #[.int .i64 0, .int .i64 0]) 2 16 Try.underlying47 hj hy0 hy1 hy2 rfl (by decide) v rs.length (flatS rs) hown ⟨b, o, none⟩ xs.length c (flatS xs) (flatS_len xs)
      (flatS_cells hc) flatS_one (by unfold maxLen; omega) (by omega) hB
    refine ⟨v', w', h1, ?_, h3, h5⟩
    unfold SpOwn
    rw [List.length_append, flatS_append]
    exact h2
theorem wpList_app_copyS {ops : Array Oper} {rest : List Oper} (w : World) {o : Oper} {a : Act} {Q : Exit → Act → World → Prop} (hgd : o.guard = none) (s x : Operand) (ho : o.op = .call { callee := .builtin .append, args := #[s, x], argTypes := #[47, 47] })
    (v : Value) (hs : a.eval s = v) (B : Nat) (rs : List (Int × Int)) (hown : SpOwn w B v rs) (src : Option Addr) (xs : List (Int × Int)) (c : Nat) (hx : a.eval x = .slice src xs.length c) (hsrc : SpAt src xs w) (hl : rs.length + xs.length ≤ 1000000) (hB : B ≤ w.heap.size)
    (h : ∀ v' w', SpOwn w' B v' (rs ++ xs) → w.grownBy w' v.ownBlock → (v'.ownBlock = v.ownBlock ∨ v'.ownBlock = some w.heap.size) → wpList Try.prog ops Q rest (a.put o.dst v') w') : wpList Try.prog ops Q (o :: rest) a w :=
  wpList_plain hgd fun _ hK => by
    obtain ⟨v', w', hr, h2, h3, h5⟩ := run_app_copyS w v B rs hown src xs c hsrc hl hB o.type
    unfold Oper.wp execOp
    simp only [ho, resolve, invoke, builtin, Sem.run_bind, Sem.run_pure, Result.andThen_ok, List.map_toArray, List.map_cons, List.map_nil, hs, hx, hr]
    exact hK _ _ (h v' w' h2 h3 h5)
theorem own_newS {W : World} {B : Nat} (hB : B ≤ W.heap.size) : SpOwn (W.alloc (.cells #[] 40)) B (.slice (some ⟨W.heap.size, 0, none⟩) 0 0) [] :=
  ⟨rfl, Or.inr ⟨_, _, _, rfl, hB, blk_new W _, Nat.le_refl _, by decide, rfl, rfl⟩⟩
set_option maxHeartbeats 2000000 in
set_option maxRecDepth 20000 in
theorem RHalve_row (v : Value) (l : List (Int × Int)) (i : Int) (w : World) (hl : l.length ≤ 1000000) (hi1 : -9223372036854775808 ≤ i) (hi2 : i ≤ 9223372036854775807) (hv : SpRow v l w) :
    Calls Try.prog 33 #[v, .int .i64 i] w fun e w' => ∃ x y, e = .returned (.tuple #[x, y, .int .i64 (halveS l i).2]) ∧ SpRow x (halveS l i).1.1 w' ∧ SpRow y (halveS l i).1.2 w' ∧ Below w.heap.size w w' := by
  have V := Lib.hid (fun w h => RCheckBox_row v l w (by omega) h)
  have HV := Lib.hid hv
  obtain ⟨a, c, rfl, hA⟩ := hv
  by_cases h1 : checkB l = 0
  · rw [h1] at V
    by_cases h2 : i < 0
    · rw [show halveS l i = (([], []), 3) from by unfold halveS; rw [if_neg (by simp [h1]), if_pos (Or.inl h2)]]
      clear h1 hA
      go_enter Try.func33, Try.ntmps33
      go_wp2_with (go_at_call 20; refine (V.out _ HV.out).mono ?_; rintro e w1 ⟨rfl, hb1⟩)
      exact bodyPost_ret (v := .tuple #[.slice none 0 0, .slice none 0 0, .int .i64 3]) (by simp only [results, Try.results33]; go_simp) rfl ⟨_, _, rfl, SpRow.nil, SpRow.nil, (by repeat' (first | exact Below.refl _ _ | assumption | apply bDrewN | apply bDrew | apply bAlloc | (refine bSet ?_ ?_ _) | (refine bStep ?_ (by assumption)) | omega | (simp <;> omega)))⟩
    · by_cases h3 : (l.length : Int) ≤ i
      · rw [show halveS l i = (([], []), 3) from by unfold halveS; rw [if_neg (by simp [h1]), if_pos (Or.inr h3)]]
        clear h1 hA
        go_enter Try.func33, Try.ntmps33
        go_wp2_with (go_at_call 20; refine (V.out _ HV.out).mono ?_; rintro e w1 ⟨rfl, hb1⟩)
        exact bodyPost_ret (v := .tuple #[.slice none 0 0, .slice none 0 0, .int .i64 3]) (by simp only [results, Try.results33]; go_simp) rfl ⟨_, _, rfl, SpRow.nil, SpRow.nil, (by repeat' (first | exact Below.refl _ _ | assumption | apply bDrewN | apply bDrew | apply bAlloc | (refine bSet ?_ ?_ _) | (refine bStep ?_ (by assumption)) | omega | (simp <;> omega)))⟩
      · obtain ⟨k, rfl⟩ : ∃ k : Nat, i = (k : Int) := ⟨i.toNat, by omega⟩
        have hk : k < l.length := by omega
        have hs := h3
        have hu : halveS l k = if (l.getD k (0, 0)).1 = (l.getD k (0, 0)).2 then (([], []), 5) else ((l.set k ((l.getD k (0, 0)).1, ((l.getD k (0, 0)).1 + (l.getD k (0, 0)).2) / 2), l.set k (((l.getD k (0, 0)).1 + (l.getD k (0, 0)).2) / 2 + 1, (l.getD k (0, 0)).2)), 0) := by
          unfold halveS
          rw [if_neg (by simp [h1]), if_neg (by omega), Int.toNat_natCast]
        rw [hu]
        have hok : okS (l.getD k (0, 0)) = true := by
          have := (checkB_ok.1 h1).2
          rw [List.all_eq_true] at this
          rw [List.getD_eq_getElem?_getD, List.getElem?_eq_getElem hk]
          exact this _ (List.getElem_mem hk)
        have hne : l ≠ [] := fun e => by rw [e] at hk; simp at hk
        obtain ⟨b0, o0, rfl, hc⟩ := hA hne
        have HA := Lib.hid hA
        have M := Lib.hid (fun w => RMiddle_any (l.getD k (0, 0)) w)
        rw [middleS_yes hok] at M
        have bd := okS_bd hok
        have q := hc.2 k hk
        have HC := Lib.hid hc
        have SH := Lib.hid (fun (W : World) (g : Nat) (y : Int) (h : SpBlk W g l) => h.setHi (i := k) (y := y) hk)
        have SL := Lib.hid (fun (W : World) (g : Nat) (x : Int) (h : SpBlk W g l) => h.setLo (i := k) (x := x) hk)
        have CE := Lib.hid (fun (W : World) (g : Nat) (h : SpBlk W g l) => h.cells hk)
        have LN : Hid (∀ s : Int × Int, (l.set k s).length = l.length) := fun s => List.length_set
        generalize hx : l.getD k (0, 0) = s at *
        obtain ⟨x1, x2⟩ := s
        dsimp only at *
        obtain ⟨q1, q2⟩ := q
        obtain ⟨bd1, bd2, bd3⟩ := bd
        clear h1 h2 h3 hs hu hok hx hA hc
        generalize hm : (x1 + x2) / 2 = m at *
        have m1 : -1099511627776 ≤ m := by omega
        have m2 : m ≤ 1099511627776 := by omega
        clear hm
        by_cases he : x1 = x2
        · rw [if_pos he]
          subst he
          go_enter Try.func33, Try.ntmps33
          go_wp2_with (first | (go_at_call 20; refine (V.out _ HV.out).mono ?_; rintro e w1 ⟨rfl, hb1⟩; have g1 := cell_step q1 hb1; have g2 := cell_step q2 hb1; clear q1 q2))
          go_quiet (fail)
          go_wp2_with fail
          exact bodyPost_ret (v := .tuple #[.slice none 0 0, .slice none 0 0, .int .i64 5]) (by simp only [results, Try.results33]; go_simp) rfl ⟨_, _, rfl, SpRow.nil, SpRow.nil, (by repeat' (first | exact Below.refl _ _ | assumption | apply bDrewN | apply bDrew | apply bAlloc | (refine bSet ?_ ?_ _) | (refine bStep ?_ (by assumption)) | omega | (simp <;> omega)))⟩
        · rw [if_neg he]
          go_enter Try.func33, Try.ntmps33
          go_wp2_with (first | (go_at_call 20; refine (V.out _ HV.out).mono ?_; rintro e w1 ⟨rfl, hb1⟩; have g1 := cell_step q1 hb1; have g2 := cell_step q2 hb1; clear q1 q2))
          go_quiet (fail)
          have HN := Lib.hid hne
          go_upto_region 10 with (first | (go_at_call 74; refine (M.out _).mono ?_; rintro e w2 ⟨rfl, hb2⟩) | (at_builtin; refine wpList_app_copyS _ rfl (.tmp 44) (.tmp 45) rfl _ rfl w2.heap.size [] (own_newS (Nat.le_refl _)) (some ⟨b0, o0, none⟩) l c rfl (HA.out.step (by repeat' (first | exact Below.refl _ _ | assumption | apply bDrewN | apply bDrew | apply bAlloc | (refine bSet ?_ ?_ _) | (refine bStep ?_ (by assumption)) | omega | (simp <;> omega)))) (by simp; omega) (by simp) ?_; intro v' w3 hO hG hat; simp only [List.nil_append] at hO; have hb3 : Below w2.heap.size w2 w3 := (bAlZ (W := w2)).grown hG (by simp) (by intro q e; cases e; exact Nat.le_refl _); obtain ⟨gx, cx, rfl, hgx, kx⟩ := SpOwn.blk hO HN.out; clear hG hat hO))
          go_upto_region 11 with (at_builtin; refine wpList_app_copyS _ rfl (.tmp 47) (.tmp 48) rfl _ rfl w3.heap.size [] (own_newS (Nat.le_refl _)) (some ⟨b0, o0, none⟩) l c rfl (HA.out.step (by repeat' (first | exact Below.refl _ _ | assumption | apply bDrewN | apply bDrew | apply bAlloc | (refine bSet ?_ ?_ _) | (refine bStep ?_ (by assumption)) | omega | (simp <;> omega)))) (by simp; omega) (by simp) ?_; intro v' w4 hO hG hat; simp only [List.nil_append] at hO; have hb4 : Below w3.heap.size w3 w4 := (bAlZ (W := w3)).grown hG (by simp) (by intro q e; cases e; exact Nat.le_refl _); obtain ⟨gy, cy, rfl, hgy, ky⟩ := SpOwn.blk hO HN.out; clear hG hat hO)
          have lx : gx < w3.heap.size := cell_lt (CE.out _ _ kx).1
          have kx4 := kx.step hb4
          obtain ⟨c1, c2, c3, c4⟩ := CE.out _ _ kx4
          obtain ⟨c5, c6, c7, c8⟩ := CE.out _ _ ky
          have n1 : gx ≠ gy := by omega
          have n2 : gy ≠ gx := by omega
          have kB : Below w.heap.size w w4 := (by repeat' (first | exact Below.refl _ _ | assumption | apply bDrewN | apply bDrew | apply bAlloc | (refine bSet ?_ ?_ _) | (refine bStep ?_ (by assumption)) | omega | (simp <;> omega)))
          have g1 : w.heap.size ≤ gx := by have := hb1.size; have := hb2.size; have h4 := hgx; simp at *; omega
          have g2 : w.heap.size ≤ gy := by omega
          clear HV M CE hb1 hb2 hb3 hb4 hgx hgy
          have KX := Lib.hid kx4
          have KY := Lib.hid ky
          clear kx kx4 ky HC HA
          go_wp2_with fail
          exact bodyPost_ret (v := .tuple #[.slice (some ⟨gx, 0, none⟩) l.length cx, .slice (some ⟨gy, 0, none⟩) l.length cy, .int .i64 0]) (by simp only [results, Try.results33]; go_simp) rfl ⟨_, _, rfl, ⟨some ⟨gx, 0, none⟩, cx, by rw [LN.out], ((SH.out _ _ _ KX.out).far n1).at_⟩, ⟨some ⟨gy, 0, none⟩, cy, by rw [LN.out], (SL.out _ _ _ (KY.out.far n2)).at_⟩, bSet (bSet kB g1 _) g2 _⟩
  · rw [show halveS l i = (([], []), checkB l) from if_pos h1]
    generalize checkB l = z at *
    clear hA
    go_enter Try.func33, Try.ntmps33
    go_wp2_with (go_at_call 20; refine (V.out _ HV.out).mono ?_; rintro e w1 ⟨rfl, hb1⟩)
    exact bodyPost_ret (v := .tuple #[.slice none 0 0, .slice none 0 0, .int .i64 z]) (by simp only [results, Try.results33]; go_simp) rfl ⟨_, _, rfl, SpRow.nil, SpRow.nil, (by repeat' (first | exact Below.refl _ _ | assumption | apply bDrewN | apply bDrew | apply bAlloc | (refine bSet ?_ ?_ _) | (refine bStep ?_ (by assumption)) | omega | (simp <;> omega)))⟩
end Go.Proofs.Ytkldlmbccdfjdaa

/-
  Own rows of numbers, any number of them, in any order; tables of rows; what Corners is.
-/
set_option linter.unusedSimpArgs false
set_option linter.unusedVariables false
namespace Go.Proofs.Ytkldlmbccdfjdaa
open Go.RowKit
def updF {α : Type} (f : Nat → α) (s : Nat) (v : α) : Nat → α := fun t => if t = s then v else f t
theorem updF_at {α : Type} {f : Nat → α} {s : Nat} {v : α} : updF f s v s = v := if_pos rfl
theorem updF_ne {α : Type} {f : Nat → α} {s t : Nat} {v : α} (h : t ≠ s) : updF f s v t = f t := if_neg h
structure MQ (w : World) (B : Nat) (L : Nat → Option Obj) (f : Nat → Option (Value × List Int)) (W : World) : Prop where
  hB : w.heap.size ≤ B
  hL : ∀ p o, L p = some o → p < B ∨ ∃ cs t fr, o = .cells cs t fr ∧ t ≠ 2
  bel : Below w.heap.size w W
  sz : B ≤ W.heap.size
  sb : ∀ p o, L p = some o → W.heap[p]? = some o
  own : ∀ s v xs, f s = some (v, xs) → IntOwn W B v xs
  far : ∀ s s' v xs v' xs', s ≠ s' → f s = some (v, xs) → f s' = some (v', xs') → Far v v'
section
variable {w W w2 w' : World} {B : Nat} {L L' : Nat → Option Obj} {f f' : Nat → Option (Value × List Int)} {s : Nat} {v v' : Value} {xs ys : List Int}
theorem MQ.congr (h : MQ w B L f W) (hf : ∀ s, f' s = f s) : MQ w B L f' W := by
  obtain rfl : f' = f := funext hf
  exact h
theorem MQ.congrL (h : MQ w B L f W) (hf : ∀ s, L' s = L s) : MQ w B L' f W := by
  obtain rfl : L' = L := funext hf
  exact h
theorem MQ.less (h : MQ w B L f W) (hf : ∀ s p, f' s = some p → f s = some p) : MQ w B L f' W :=
  ⟨h.hB, h.hL, h.bel, h.sz, h.sb, fun s v xs e => h.own s v xs (hf s _ e), fun s s' v xs v' xs' n e e' => h.far s s' v xs v' xs' n (hf s _ e) (hf s' _ e')⟩
theorem MQ.lessL (h : MQ w B L f W) (hf : ∀ p o, L' p = some o → L p = some o) : MQ w B L' f W :=
  ⟨h.hB, fun p o e => h.hL p o (hf p o e), h.bel, h.sz, fun p o e => h.sb p o (hf p o e), h.own, h.far⟩
theorem MQ.step (h : MQ w B L f W) (hb : Below W.heap.size W w2) : MQ w B L f w2 :=
  ⟨h.hB, h.hL, bStep h.bel hb, Nat.le_trans h.sz hb.size, fun p o e => blk_step (h.sb p o e) hb, fun s v xs e => (h.own s v xs e).step hb, h.far⟩
theorem MQ.put (h : MQ w B L f W) (s : Nat) (ho : IntOwn W B v xs) (hf : ∀ s' v' xs', s' ≠ s → f s' = some (v', xs') → Far v v') : MQ w B L (updF f s (some (v, xs))) W := by
  refine ⟨h.hB, h.hL, h.bel, h.sz, h.sb, fun t v' xs' e => ?_, fun t t' v1 x1 v2 x2 n e e' => ?_⟩
  · by_cases c : t = s
    · subst c
      rw [updF_at] at e
      cases e
      exact ho
    · rw [updF_ne c] at e
      exact h.own t v' xs' e
  · by_cases c : t = s
    · subst c
      rw [updF_at] at e
      rw [updF_ne (Ne.symm n)] at e'
      cases e
      exact hf t' v2 x2 (Ne.symm n) e'
    · by_cases c' : t' = s
      · subst c'
        rw [updF_at] at e'
        rw [updF_ne c] at e
        cases e'
        exact (hf t v1 x1 c e).symm
      · rw [updF_ne c] at e
        rw [updF_ne c'] at e'
        exact h.far t t' v1 x1 v2 x2 n e e'
theorem MQ.fresh0 (h : MQ w B L f W) (s : Nat) : MQ w B L (updF f s (some (.slice (some ⟨W.heap.size, 0, none⟩) 0 0, []))) (W.alloc (.cells #[] 2)) :=
  (h.step bAlZ).put s (own_new h.sz) fun s' v' xs' _ e k e1 e2 => by
    have := ((h.own s' v' xs' e).lt k e2).2
    simp [Value.ownBlock] at e1
    omega
theorem own_new1 {W : World} {B : Nat} {x : Int} (hB : B ≤ W.heap.size) : IntOwn (W.alloc (.cells #[.int .i64 x] 2)) B (.slice (some ⟨W.heap.size, 0, none⟩) 1 1) [x] :=
  ⟨rfl, Or.inr ⟨_, _, _, rfl, hB, blk_new W _, Nat.le_refl _, by decide, rfl, rfl⟩⟩
theorem MQ.fresh1 (h : MQ w B L f W) (s : Nat) (x : Int) : MQ w B L (updF f s (some (.slice (some ⟨W.heap.size, 0, none⟩) 1 1, [x]))) (W.alloc (.cells #[.int .i64 x] 2)) :=
  (h.step bAlZ).put s (own_new1 h.sz) fun s' v' xs' _ e k e1 e2 => by
    have := ((h.own s' v' xs' e).lt k e2).2
    simp [Value.ownBlock] at e1
    omega
theorem own_type2 {B g : Nat} {v : Value} {xs : List Int} (h : IntOwn W B v xs) (hg : v.ownBlock = some g) : ∃ cur, W.heap[g]? = some (.cells cur 2 (0, 0)) := own_type h hg
theorem MQ.app (h : MQ w B L f W) (s : Nat) (hs : f s = some (v, xs)) (ho : IntOwn w' B v' ys) (hg : W.grownBy w' v.ownBlock) (hat : v'.ownBlock = v.ownBlock ∨ v'.ownBlock = some W.heap.size) : MQ w B L (updF f s (some (v', ys))) w' := by
  have hB := h.hB
  have h0 := h.own s v xs hs
  have hr := own_ge h0
  have hlt : ∀ b, b < B → some b ≠ v.ownBlock := fun b hb e => by have := hr _ e.symm; omega
  have hob : ∀ p o, L p = some o → w'.heap[p]? = some o := fun p o e => by
    refine blk_grown (h.sb p o e) hg ?_
    rcases h.hL p o e with q | ⟨cs, t, fr, rfl, ht⟩
    · exact hlt p q
    · intro c
      obtain ⟨cur, hc⟩ := own_type h0 c.symm
      rw [h.sb p _ e] at hc
      have := Option.some.inj hc
      injection this with _ h2 _
      exact ht h2
  have h1 : MQ w B L (updF f s none) w' := by
    refine ⟨h.hB, h.hL, h.bel.grown hg (by have := h.bel.size; omega) fun k hk => by have := hr k hk; omega, Nat.le_trans h.sz hg.size, hob, fun t v1 x1 e => ?_, fun t t' v1 x1 v2 x2 n e e' => ?_⟩
    · by_cases c : t = s
      · subst c; rw [updF_at] at e; cases e
      · rw [updF_ne c] at e
        exact World.ownsRow.kept (h.own t v1 x1 e) hg (h.far t s v1 x1 v xs c e hs).ne
    · by_cases c : t = s
      · subst c; rw [updF_at] at e; cases e
      · by_cases c' : t' = s
        · subst c'; rw [updF_at] at e'; cases e'
        · rw [updF_ne c] at e
          rw [updF_ne c'] at e'
          exact h.far t t' v1 x1 v2 x2 n e e'
  refine (h1.put s ho fun s' v1 x1 n e k e1 e2 => ?_).congr fun t => ?_
  · rw [updF_ne n] at e
    rcases hat with q | q
    · exact h.far s s' v xs v1 x1 (Ne.symm n) hs e k (q.symm.trans e1) e2
    · have := ((h.own s' v1 x1 e).lt k e2).2
      rw [q] at e1
      simp at e1
      omega
  · by_cases c : t = s
    · subst c; rw [updF_at, updF_at]
    · rw [updF_ne c, updF_ne c, updF_ne c]
theorem MQ.obj {cs : Array Value} {t : TypeId} (h : MQ w B L f W) (ht : t ≠ 2) : MQ w B (updF L W.heap.size (some (.cells cs t (0, 0)))) f (W.alloc (.cells cs t (0, 0))) := by
  have k := h.step (bAlZ (o := .cells cs t (0, 0)))
  refine ⟨k.hB, fun p o e => ?_, k.bel, k.sz, fun p o e => ?_, k.own, k.far⟩
  · by_cases c : p = W.heap.size
    · subst c; rw [updF_at] at e; cases e; exact Or.inr ⟨_, _, _, rfl, ht⟩
    · rw [updF_ne c] at e; exact h.hL p o e
  · by_cases c : p = W.heap.size
    · subst c; rw [updF_at] at e; cases e; exact blk_new W _
    · rw [updF_ne c] at e; exact k.sb p o e
theorem MQ.store {p o : Nat} {u : Value} {cs : Array Value} {t : TypeId} (h : MQ w B L f W) (hp : L p = some (.cells cs t (0, 0))) (hw : w.heap.size ≤ p) (ht : t ≠ 2) : MQ w B (updF L p (some (.cells (cs.setIfInBounds o u) t (0, 0)))) f (W.setCell ⟨p, o, none⟩ u) := by
  have hne : ∀ s v xs, f s = some (v, xs) → v.ownBlock ≠ some p := fun s v xs e c => by
    obtain ⟨cur, hc⟩ := own_type (h.own s v xs e) c
    rw [h.sb p _ hp] at hc
    have := Option.some.inj hc
    injection this with _ h2 _
    exact ht h2
  refine ⟨h.hB, fun q ob e => ?_, h.bel.setCell hw _, by simpa using h.sz, fun q ob e => ?_, fun s v xs e => ownsRow_setCell_other (h.own s v xs e) (hne s v xs e) _, h.far⟩
  · by_cases c : q = p
    · subst c; rw [updF_at] at e; cases e; exact Or.inr ⟨_, _, _, rfl, ht⟩
    · rw [updF_ne c] at e; exact h.hL q ob e
  · by_cases c : q = p
    · subst c; rw [updF_at] at e; cases e; exact blk_set (h.sb q _ hp)
    · rw [updF_ne c] at e; exact blk_set_other (h.sb q ob e) c
end
/-- A table of rows, as it can be read. -/
def TabAt (a : Option Addr) (n : Nat) (f : Nat → List Int) (W : World) : Prop := 0 < n → ∃ b o, a = some ⟨b, o, none⟩ ∧ b < W.heap.size ∧ ∀ k, k < n → ∃ ak ck, W.cell? ⟨b, o + k, none⟩ = some (.slice ak (f k).length ck) ∧ IntAt ak (f k) W
def TabRow (v : Value) (n : Nat) (f : Nat → List Int) (W : World) : Prop := ∃ a c, v = .slice a n c ∧ TabAt a n f W
theorem TabAt.step {a : Option Addr} {n : Nat} {f : Nat → List Int} {W w2 : World} (h : TabAt a n f W) (hb : Below W.heap.size W w2) : TabAt a n f w2 := fun h0 => by
  obtain ⟨b, o, rfl, h1, h2⟩ := h h0
  refine ⟨b, o, rfl, Nat.lt_of_lt_of_le h1 hb.size, fun k hk => ?_⟩
  obtain ⟨ak, ck, q1, q2⟩ := h2 k hk
  exact ⟨ak, ck, cell_step q1 hb, q2.step hb⟩
theorem TabRow.nil {f : Nat → List Int} {W : World} : TabRow (.slice none 0 0) 0 f W := ⟨none, 0, rfl, fun h => absurd h (by omega)⟩
/-- Row k of the corners of the first n spans. -/
def cAt (l : List (Int × Int)) (n k i : Nat) : Int := if k / 2 ^ (n - 1 - i) % 2 = 0 then (l.getD i (0, 0)).1 else (l.getD i (0, 0)).2
def cRow (l : List (Int × Int)) (n k : Nat) : List Int := (List.range n).map (cAt l n k)
def cornN (l : List (Int × Int)) : Nat := if checkB l = 0 then 2 ^ l.length else 0
theorem cRow_len (l : List (Int × Int)) (n k : Nat) : (cRow l n k).length = n := by simp [cRow]
theorem cRow_take {l : List (Int × Int)} {n k i : Nat} (h : i < n) : (cRow l n k).take (i + 1) = (cRow l n k).take i ++ [cAt l n k i] := by
  rw [List.take_succ_eq_append_getElem (by rw [cRow_len]; exact h)]
  simp [cRow]
theorem cRow_all (l : List (Int × Int)) (n k : Nat) : (cRow l n k).take n = cRow l n k := List.take_of_length_le (by rw [cRow_len]; exact Nat.le_refl _)
theorem cRow_next (l : List (Int × Int)) (n k b : Nat) (hb : b < 2) : cRow l (n + 1) (2 * k + b) = cRow l n k ++ [if b = 0 then (l.getD n (0, 0)).1 else (l.getD n (0, 0)).2] := by
  unfold cRow
  rw [List.range_succ, List.map_append]
  congr 1
  · refine List.map_congr_left fun i hi => ?_
    have hi : i < n := List.mem_range.1 hi
    unfold cAt
    have e : (2 * k + b) / 2 ^ (n + 1 - 1 - i) = k / 2 ^ (n - 1 - i) := by
      rw [show n + 1 - 1 - i = (n - 1 - i) + 1 by omega, Nat.pow_succ, Nat.mul_comm (2 ^ _) 2, ← Nat.div_div_eq_div_mul]
      congr 1
      omega
    rw [e]
  · simp only [List.map_cons, List.map_nil, cAt]
    rw [show n + 1 - 1 - n = 0 by omega, Nat.pow_zero, Nat.div_one]
    have e : (2 * k + b) % 2 = b := by omega
    rw [e]
end Go.Proofs.Ytkldlmbccdfjdaa
