/-
  A region that draws its order: operations whose values are known, at most two whose values are not (a slice that is built, an append), and one at the end. Each is carried out in the frame that all of them leave.
-/
import Derived.Test.YtpdhkgfdmpofiaaGreatDoorInvF
set_option linter.unusedSimpArgs false
set_option linter.unusedVariables false
namespace Go.Proofs.YtpdhkgfdmpofiaaGreatDoor
open Go.RowKit

section
variable {P : Program} {ops : Array Oper} {Q : Exit → Act → World → Prop}

theorem put_inj {y : Act} {d : Nat} {v v' : Value} (hd : d < y.tmps.size) (h : y.put (some d) v = y.put (some d) v') : v = v' := by
  have := congrArg (fun a : Act => a.tmps[d]?) h
  simpa [Act.put, Array.getElem?_setIfInBounds, hd] using this
theorem upon_congr {o : Oper} {x y : Act} {d : Nat} {C : Value → World → Prop} {r : Result Next} (hd : o.dst = some d) (hy : d < y.tmps.size)
    (h : o.upon P y (fun a' w' => ∃ v, a' = y.put (some d) v ∧ C v w') (fun _ _ _ => False) r) : o.upon P x (fun a' w' => ∃ v, a' = x.put (some d) v ∧ C v w') Q r := by
  cases r with
  | ok n w' =>
    cases n with
    | value v =>
      simp only [Oper.upon, hd] at h ⊢
      obtain ⟨v', e, hC⟩ := h
      rw [← put_inj hy e] at hC
      exact ⟨v, rfl, hC⟩
    | skip =>
      simp only [Oper.upon, hd] at h ⊢
      obtain ⟨v', e, hC⟩ := h
      rw [← put_inj hy e] at hC
      exact ⟨_, rfl, hC⟩
    | «defer» df =>
      simp only [Oper.upon, hd] at h
      obtain ⟨v', e, hC⟩ := h
      have := congrArg Act.defers e
      simp [Act.put] at this
    | enter f args =>
      simp only [Oper.upon, hd] at h ⊢
      refine h.mono fun e w'' he => ?_
      cases e with
      | returned v =>
        obtain ⟨v', e, hC⟩ := he
        rw [← put_inj hy e] at hC
        exact ⟨_, rfl, hC⟩
      | panicked c => exact absurd he id
      | outgrown => obtain ⟨_, _, hf⟩ := he; exact absurd hf id
    | row rw_ args =>
      simp only [Oper.upon, hd] at h ⊢
      refine h.mono fun v w'' he => ?_
      obtain ⟨v', e, hC⟩ := he
      rw [← put_inj hy e] at hC
      exact ⟨_, rfl, hC⟩
    | _ => exact absurd h id
  | halt hh w' =>
    cases hh <;> exact absurd h id

def chainB (ops : Array Oper) (N e1 e2 u1 u2 : Nat) : Bool := (List.range N).all fun i => match ops[i]? with
  | none => false
  | some o => o.guard.isNone && plainOp o.op && o.dst.isSome && (o.op.operands.all fun x => match x with
      | .tmp t => decide (t ≠ u2) && (decide (t = u1) || (List.range N).all fun j => decide (dstOf ops j ≠ some t) || (waits ops i).contains j)
      | _ => true) && ((List.range N).all fun j => decide (j = i) || decide (dstOf ops j ≠ dstOf ops i)) &&
      (if i = e1 then decide (dstOf ops i = some u1) else if i = e2 then decide (dstOf ops i = some u2) else decide (dstOf ops i ≠ some u1) && decide (dstOf ops i ≠ some u2))
structure ChainAt (ops : Array Oper) (N e1 e2 u1 u2 i : Nat) (o : Oper) : Prop where
  guard : o.guard = none
  sel : ∀ cs b, o.op ≠ .select cs b
  dst : ∃ d, o.dst = some d
  looks2 : ∀ t, Operand.tmp t ∈ o.op.operands → t ≠ u2
  looks : ∀ t, Operand.tmp t ∈ o.op.operands → t = u1 ∨ ∀ j, j < N → dstOf ops j = some t → j ∈ waits ops i
  one : ∀ j, j < N → j ≠ i → dstOf ops j ≠ dstOf ops i
  at1 : i = e1 → dstOf ops i = some u1
  at2 : i ≠ e1 → i = e2 → dstOf ops i = some u2
  at0 : i ≠ e1 → i ≠ e2 → dstOf ops i ≠ some u1 ∧ dstOf ops i ≠ some u2
theorem chain_at {N e1 e2 u1 u2 i : Nat} {o : Oper} (h : chainB ops N e1 e2 u1 u2 = true) (hi : i < N) (ho : ops[i]? = some o) : ChainAt ops N e1 e2 u1 u2 i o := by
  have h1 := List.all_eq_true.1 h i (List.mem_range.2 hi)
  rw [ho] at h1
  simp only [Bool.and_eq_true] at h1
  obtain ⟨⟨⟨⟨⟨h1, h2⟩, h3⟩, h4⟩, h5⟩, h6⟩ := h1
  have hk : ∀ t, Operand.tmp t ∈ o.op.operands → t ≠ u2 ∧ (t = u1 ∨ ∀ j, j < N → dstOf ops j = some t → j ∈ waits ops i) := by
    intro t ht
    rw [Array.all_eq_true'] at h4
    have h7 := h4 (.tmp t) ht
    simp only [Bool.and_eq_true, Bool.or_eq_true, decide_eq_true_eq] at h7
    refine ⟨h7.1, ?_⟩
    rcases h7.2 with h8 | h8
    · exact Or.inl h8
    · refine Or.inr fun j hj hd => ?_
      have h9 := List.all_eq_true.1 h8 j (List.mem_range.2 hj)
      simp only [Bool.or_eq_true, decide_eq_true_eq] at h9
      rcases h9 with h9 | h9
      · exact absurd hd h9
      · simpa using h9
  refine ⟨by simpa using h1, ?_, Option.isSome_iff_exists.1 h3, fun t ht => (hk t ht).1, fun t ht => (hk t ht).2, ?_, ?_, ?_, ?_⟩
  · intro cs b e; rw [e] at h2; simp [plainOp] at h2
  · intro j hj hne
    have h6 := List.all_eq_true.1 h5 j (List.mem_range.2 hj)
    simp only [Bool.or_eq_true, decide_eq_true_eq] at h6
    rcases h6 with h6 | h6
    · exact absurd h6 hne
    · exact h6
  · intro e; rw [if_pos e] at h6; simpa using h6
  · intro e e'; rw [if_neg e, if_pos e'] at h6; simpa using h6
  · intro e e'; rw [if_neg e, if_neg e'] at h6; simpa using h6

/-- What is asked of the operations whose values are known. -/
def AllRd (Ob : Oper → Prop) (e1 e2 : Nat) : Nat → List Oper → Prop
  | _, [] => True
  | i, o :: l => (i ≠ e1 → i ≠ e2 → Ob o) ∧ AllRd Ob e1 e2 (i + 1) l
theorem AllRd.at_ {Ob : Oper → Prop} {e1 e2 : Nat} : ∀ {l : List Oper} {k : Nat}, AllRd Ob e1 e2 k l → ∀ (i : Nat) (o : Oper), l[i]? = some o → k + i ≠ e1 → k + i ≠ e2 → Ob o := by
  intro l
  induction l with
  | nil => intro _ _ i o h; simp at h
  | cons x l ih =>
    intro k h i o ho n1 n2
    cases i with
    | zero => simp at ho; subst ho; exact h.1 n1 n2
    | succ i => exact ih h.2 i o (by simpa using ho) (by omega) (by omega)
def RdOb (P : Program) (St : Bool → Bool → Value → Value → World → Prop) (AF : Act) (u1 : Nat) (o : Oper) : Prop :=
  ∃ d v, o.dst = some d ∧ AF.tmps[d]? = some v ∧ ∀ b1 b2 v1 v2 W, St b1 b2 v1 v2 W → ∀ (K : Act → World → Prop) (Q : Exit → Act → World → Prop), (∀ W', St b1 b2 v1 v2 W' → K ((AF.put (some u1) v1).put (some d) v) W') → o.wp P (AF.put (some u1) v1) W K Q

theorem put_at (a : Act) (d t : Nat) (v : Value) : (a.put (some d) v).tmps[t]? = if d = t then (if d < a.tmps.size then some v else none) else a.tmps[t]? := by
  simp only [Act.put, Array.getElem?_setIfInBounds]
theorem actGet_of {a : Act} {t : Nat} (h : t < a.tmps.size) : a.tmps[t]? = some (a.tmps.getD t undef) := by
  rw [Array.getD_eq_getD_getElem?, Array.getElem?_eq_getElem h]; rfl
theorem actGet_none {a : Act} {t : Nat} (h : ¬ t < a.tmps.size) : a.tmps[t]? = none := by
  rw [Array.getElem?_eq_none_iff]; omega

theorem act_ext {p q : Act} (h1 : p.tmps = q.tmps) (h2 : p.defers = q.defers) : p = q := by
  obtain ⟨a, b⟩ := p
  obtain ⟨c, d⟩ := q
  dsimp only at h1 h2
  rw [h1, h2]

/-- THE RULE. -/
theorem region_chain {id : Nat} {a : Act} {w : World} (N e1 e2 u1 u2 f : Nat) (vals : List (Nat × Value)) (St : Bool → Bool → Value → Value → World → Prop) (hm : P.follows .mixedOrders = true) (he : early ops = true) (hs0 : ops.size = N + 1)
    (hA : ((List.range N).all fun j => (ancs ops f N).contains j) = true) (hE : (decide (N < e2) || ((waits ops e2).contains e1) && decide (e1 < e2)) = true) (hH : chainB ops N e1 e2 u1 u2 = true) (hN1 : e1 ≠ N) (hN2 : e2 ≠ N) (hu : u1 ≠ u2) (hsu1 : e1 < N → u1 < a.tmps.size) (hsu2 : e2 < N → u2 < a.tmps.size)
    (hds : vals.map (fun p => some p.1) = ((List.range N).filter fun i => decide (i ≠ e1) && decide (i ≠ e2)).map (dstOf ops))
    (h0 : ∀ v1 v2, St false false v1 v2 w.drew) (reads : AllRd (RdOb P St (updAll a vals) u1) e1 e2 0 (ops.toList.take N))
    (eff1 : ∀ o, ops[e1]? = some o → ∀ v1 v2 W, St false false v1 v2 W → ∀ (K : Act → World → Prop) (Q : Exit → Act → World → Prop), (∀ v W', St true false v v2 W' → K (((updAll a vals).put (some u1) v1).put (some u1) v) W') → o.wp P ((updAll a vals).put (some u1) v1) W K Q)
    (eff2 : ∀ o, ops[e2]? = some o → ∀ v1 v2 W, St true false v1 v2 W → ∀ (K : Act → World → Prop) (Q : Exit → Act → World → Prop), (∀ v W', St true true v1 v W' → K (((updAll a vals).put (some u1) v1).put (some u2) v) W') → o.wp P ((updAll a vals).put (some u1) v1) W K Q)
    (tail : ∀ v1 v2 W, St (decide (e1 < N)) (decide (e2 < N)) v1 v2 W → wpOp P ops Q N (fun a2 w2 => Q .normal a2 w2) (((updAll a vals).put (some u1) v1).put (some u2) v2) W) :
    (Code.region id ops true).wp P Q a w := by
  have hA' : ∀ j, j < N → j ∈ ancs ops f N := fun j hj => by simpa using List.all_eq_true.1 hA j (List.mem_range.2 hj)
  have hsame : ∀ t, (∀ j, j < N → j ≠ e1 → j ≠ e2 → dstOf ops j ≠ some t) → (updAll a vals).tmps[t]? = a.tmps[t]? := fun t ht => updAll_same _ _ _ fun p hp e => by
    have h1 : some p.1 ∈ vals.map (fun p => some p.1) := List.mem_map.2 ⟨p, hp, rfl⟩
    rw [hds] at h1
    obtain ⟨j, hj, hjd⟩ := List.mem_map.1 h1
    obtain ⟨hj1, hj2⟩ := List.mem_filter.1 hj
    simp only [Bool.and_eq_true, decide_eq_true_eq] at hj2
    exact ht j (List.mem_range.1 hj1) hj2.1 hj2.2 (by rw [hjd, e])
  have hdf : (updAll a vals).defers = a.defers := updAll_defers _ _
  have hsz : (updAll a vals).tmps.size = a.tmps.size := updAll_size _ _
  have hval : ∀ i o, i < N → ops[i]? = some o → i ≠ e1 → i ≠ e2 → RdOb P St (updAll a vals) u1 o := fun i o hi ho n1 n2 => reads.at_ i o (by
    rw [List.getElem?_take_of_lt hi, Array.getElem?_toList]; exact ho) (by omega) (by omega)
  generalize updAll a vals = AF at *
  refine region_inv hm he (fun l x W => l.size = ops.size ∧ Shut ops l ∧ ((l.getD N false = true ∧ Q .normal x W) ∨ (l.getD N true = false ∧ x.defers = a.defers ∧ x.tmps.size = a.tmps.size ∧
    (∀ j, j < N → j ≠ e1 → j ≠ e2 → l.getD j false = true → ∀ t, dstOf ops j = some t → x.tmps[t]? = AF.tmps[t]?) ∧
    (∀ t, (∀ j, j < N → dstOf ops j = some t → l.getD j false = false) → x.tmps[t]? = a.tmps[t]?) ∧ St (l.getD e1 false) (l.getD e2 false) (x.tmps.getD u1 undef) (x.tmps.getD u2 undef) W))) ?_ (fun l a w h => h.1) ?_ ?_
  · refine ⟨by simp, ?_, Or.inr ⟨?_, rfl, rfl, fun j hj _ _ h => ?_, fun _ _ => rfl, ?_⟩⟩
    · intro i hi
      rw [Array.getD_eq_getD_getElem?] at hi
      by_cases h : i < ops.size <;> simp [h] at hi
    · rw [Array.getD_eq_getD_getElem?]; simp [hs0]
    · rw [Array.getD_eq_getD_getElem?] at h
      simp [hs0, show j < N + 1 by omega] at h
    · have e : ∀ k, (Array.replicate ops.size false).getD k false = false := by
        intro k
        rw [Array.getD_eq_getD_getElem?]
        by_cases h : k < ops.size <;> simp [h]
      rw [e, e]
      exact h0 _ _
  · rintro i o ho l x W ⟨hs, hS, hJ⟩ hl hd
    have hio : i < ops.size := (Array.getElem?_eq_some_iff.1 ho).1
    have hil : i < l.size := by rw [hs]; exact hio
    have hw := waits_ok ho hd
    have hS2 := hS.set hil hw
    have hs2 : (l.setIfInBounds i true).size = ops.size := by simpa using hs
    rcases hJ with ⟨j1, _⟩ | ⟨jN, x1, x2, x3, x4, x5⟩
    · rcases Nat.lt_or_ge i N with hi | hi
      · exact absurd (hS.anc f N j1 i (hA' i hi)) (by rw [getD_tf hl]; decide)
      · obtain rfl : i = N := by omega
        exact absurd j1 (by rw [getD_tf hl]; decide)
    rcases Nat.lt_or_ge i N with hi | hi
    · have hC := chain_at hH hi ho
      obtain ⟨d, hd1⟩ := hC.dst
      have hdi : dstOf ops i = some d := by unfold dstOf; rw [ho]; exact hd1
      -- the operands look alike
      have hev : ∀ y ∈ o.op.operands, x.eval y = (AF.put (some u1) (x.tmps.getD u1 undef)).eval y := by
        intro y hy
        refine eval_same fun t ht => ?_
        subst ht
        have n2 := hC.looks2 t hy
        rw [put_at]
        by_cases c1 : u1 = t
        · rw [if_pos c1]
          subst c1
          by_cases hlt : u1 < x.tmps.size
          · rw [if_pos (by rw [hsz, ← x2]; exact hlt), actGet_of hlt]
          · rw [if_neg (by rw [hsz, ← x2]; exact hlt), actGet_none hlt]
        · rw [if_neg c1]
          rcases hC.looks t hy with c2 | c2
          · exact absurd c2.symm c1
          by_cases hc : ∃ j, j < N ∧ dstOf ops j = some t
          · obtain ⟨j, hj, hjt⟩ := hc
            have hoj : ops[j]? = some ops[j] := Array.getElem?_eq_getElem (by omega)
            have hCj := chain_at hH hj hoj
            have m1 : j ≠ e1 := fun e => by have := hCj.at1 e; rw [hjt] at this; exact c1 (Option.some.inj this).symm
            have m2 : j ≠ e2 := fun e => by have := hCj.at2 m1 e; rw [hjt] at this; exact n2 (Option.some.inj this)
            exact x3 j hj m1 m2 (hw j (c2 j hj hjt)) t hjt
          · have hno : ∀ j, j < N → dstOf ops j ≠ some t := fun j hj e => hc ⟨j, hj, e⟩
            rw [x4 t (fun j hj e => absurd e (hno j hj)), hsame t (fun j hj _ _ => hno j hj)]
      have hex := execOp_congr o hC.sel hev
      by_cases hdlt : d < a.tmps.size
      · have hlt : d < x.tmps.size := by rw [x2]; exact hdlt
        have hAFlt : d < (AF.put (some u1) (x.tmps.getD u1 undef)).tmps.size := by simpa [Act.put, hsz] using hdlt
        -- the frame and the flags behind it
        have hput : ∀ (C : Value → World → Prop), (∀ (K : Act → World → Prop) (Q : Exit → Act → World → Prop), (∀ v W', C v W' → K ((AF.put (some u1) (x.tmps.getD u1 undef)).put (some d) v) W') → o.wp P (AF.put (some u1) (x.tmps.getD u1 undef)) W K Q) → wpOp P ops Q i (fun a' w' => ∃ v, a' = x.put (some d) v ∧ C v w') x W := by
          intro C hC2
          unfold wpOp
          rw [ho]
          simp only [Region.wanted, hC.guard, if_true]
          refine Or.inl ?_
          have h1 := hC2 (fun a' w' => ∃ v, a' = (AF.put (some u1) (x.tmps.getD u1 undef)).put (some d) v ∧ C v w') (fun _ _ _ => False) (fun v W' h => ⟨v, rfl, h⟩)
          unfold Oper.wp at h1 ⊢
          rw [hex]
          exact upon_congr hd1 hAFlt h1
        have hfr : ∀ v W', (i ≠ e1 → i ≠ e2 → AF.tmps[d]? = some v) → St ((l.setIfInBounds i true).getD e1 false) ((l.setIfInBounds i true).getD e2 false) ((x.put (some d) v).tmps.getD u1 undef) ((x.put (some d) v).tmps.getD u2 undef) W' →
            ((l.setIfInBounds i true).size = ops.size ∧ Shut ops (l.setIfInBounds i true) ∧ (((l.setIfInBounds i true).getD N false = true ∧ Q .normal (x.put (some d) v) W') ∨ ((l.setIfInBounds i true).getD N true = false ∧ (x.put (some d) v).defers = a.defers ∧ (x.put (some d) v).tmps.size = a.tmps.size ∧
    (∀ j, j < N → j ≠ e1 → j ≠ e2 → (l.setIfInBounds i true).getD j false = true → ∀ t, dstOf ops j = some t → (x.put (some d) v).tmps[t]? = AF.tmps[t]?) ∧
    (∀ t, (∀ j, j < N → dstOf ops j = some t → (l.setIfInBounds i true).getD j false = false) → (x.put (some d) v).tmps[t]? = a.tmps[t]?) ∧ St ((l.setIfInBounds i true).getD e1 false) ((l.setIfInBounds i true).getD e2 false) ((x.put (some d) v).tmps.getD u1 undef) ((x.put (some d) v).tmps.getD u2 undef) W'))) := by
          intro v W' hv hSt
          refine ⟨hs2, hS2, Or.inr ⟨?_, x1, by simpa [Act.put] using x2, ?_, ?_, hSt⟩⟩
          · rw [getD_set1 hil, if_neg (by omega)]; exact jN
          · intro j hj m1 m2 hjl t hjt
            rw [put_at]
            by_cases e : d = t
            · subst e
              rw [if_pos rfl, if_pos hlt]
              have hji : j = i := Classical.byContradiction fun c => hC.one j hj c (by rw [hjt, hdi])
              subst hji
              exact (hv m1 m2).symm
            · rw [if_neg e]
              have hji : j ≠ i := fun c => by subst c; rw [hdi] at hjt; exact e (Option.some.inj hjt)
              rw [getD_set1 hil, if_neg (fun c => hji c.symm)] at hjl
              exact x3 j hj m1 m2 hjl t hjt
          · intro t ht
            rw [put_at]
            have hdt : d ≠ t := fun c => by
              subst c
              have := ht i hi hdi
              rw [getD_set1 hil, if_pos rfl] at this
              cases this
            rw [if_neg hdt]
            refine x4 t fun j hj hjt => ?_
            have := ht j hj hjt
            rw [getD_set1 hil] at this
            split at this
            · cases this
            · exact this
        have hgd : ∀ (v : Value) (t : Nat), (x.put (some d) v).tmps.getD t undef = if d = t then v else x.tmps.getD t undef := by
          intro v t
          rw [Array.getD_eq_getD_getElem?, put_at]
          by_cases e : d = t
          · rw [if_pos e, if_pos e, if_pos hlt]; rfl
          · rw [if_neg e, if_neg e, Array.getD_eq_getD_getElem?]
        by_cases c1 : i = e1
        · subst c1
          have hd2 := hC.at1 rfl
          rw [hdi] at hd2
          obtain rfl : d = u1 := Option.some.inj hd2
          have hb1 : l.getD i false = false := getD_tf hl
          have hb2 : l.getD e2 false = false := by
            cases hb : l.getD e2 false with
            | false => rfl
            | true =>
              exfalso
              simp only [Bool.or_eq_true, Bool.and_eq_true, decide_eq_true_eq] at hE
              rcases hE with hE | hE
              · rw [Array.getD_eq_getD_getElem?, Array.getElem?_eq_none_iff.2 (by omega)] at hb
                cases hb
              · have := hS e2 hb i (by simpa using hE.1)
                rw [hb1] at this; cases this
          rw [hb1, hb2] at x5
          refine wpOp_mono ?_ (hput (fun v W' => St true false v (x.tmps.getD u2 undef) W') (fun K Q hK => eff1 o ho _ _ W x5 K Q hK))
          rintro a' w' ⟨v, rfl, hv⟩
          refine hfr v w' (fun c => absurd rfl c) ?_
          rw [getD_set1 hil, if_pos rfl, getD_set1 hil, hgd, hgd, if_pos rfl, if_neg hu]
          have : ¬ i = e2 := fun e => by
            simp only [Bool.or_eq_true, Bool.and_eq_true, decide_eq_true_eq] at hE
            omega
          rw [if_neg this, hb2]
          exact hv
        · by_cases c2 : i = e2
          · subst c2
            have hd2 := hC.at2 c1 rfl
            rw [hdi] at hd2
            obtain rfl : d = u2 := Option.some.inj hd2
            have hb2 : l.getD i false = false := getD_tf hl
            have hb1 : l.getD e1 false = true := by
              simp only [Bool.or_eq_true, Bool.and_eq_true, decide_eq_true_eq] at hE
              rcases hE with hE | hE
              · omega
              · exact hw e1 (by simpa using hE.1)
            rw [hb1, hb2] at x5
            refine wpOp_mono ?_ (hput (fun v W' => St true true (x.tmps.getD u1 undef) v W') (fun K Q hK => eff2 o ho _ _ W x5 K Q hK))
            rintro a' w' ⟨v, rfl, hv⟩
            refine hfr v w' (fun _ c => absurd rfl c) ?_
            rw [getD_set1 hil, getD_set1 hil, if_pos rfl, hgd, hgd, if_pos rfl, if_neg (Ne.symm hu), if_neg c1, hb1]
            exact hv
          · obtain ⟨d', v, g1, g2, g3⟩ := hval i o hi ho c1 c2
            rw [hd1] at g1
            obtain rfl : d = d' := Option.some.inj g1
            obtain ⟨k1, k2⟩ := hC.at0 c1 c2
            rw [hdi] at k1 k2
            have k1' : d ≠ u1 := fun e => k1 (by rw [e])
            have k2' : d ≠ u2 := fun e => k2 (by rw [e])
            refine wpOp_mono ?_ (hput (fun v' W' => v' = v ∧ St (l.getD e1 false) (l.getD e2 false) (x.tmps.getD u1 undef) (x.tmps.getD u2 undef) W') (fun K Q hK => g3 _ _ _ _ W x5 K Q (fun W' h => hK v W' ⟨rfl, h⟩)))
            rintro a' w' ⟨v', rfl, rfl, hv⟩
            refine hfr v' w' (fun _ _ => g2) ?_
            rw [getD_set1 hil, getD_set1 hil, hgd, hgd, if_neg k1', if_neg k2', if_neg c1, if_neg c2]
            exact hv
      · -- no such slot: cannot be
        exfalso
        by_cases c1 : i = e1
        · have hd2 := hC.at1 c1
          rw [hdi] at hd2
          have := hsu1 (by omega)
          rw [← Option.some.inj hd2] at this
          exact hdlt this
        · by_cases c2 : i = e2
          · have hd2 := hC.at2 c1 c2
            rw [hdi] at hd2
            have := hsu2 (by omega)
            rw [← Option.some.inj hd2] at this
            exact hdlt this
          · obtain ⟨d', v, g1, g2, g3⟩ := hval i o hi ho c1 c2
            rw [hd1] at g1
            obtain rfl : d = d' := Option.some.inj g1
            have := (Array.getElem?_eq_some_iff.1 g2).1
            rw [hsz] at this
            exact hdlt this
    · obtain rfl : i = N := by omega
      have hall : ∀ j, j < i → l.getD j false = true := by
        intro j hj
        have := hS2.anc f i (by rw [getD_set1 hil, if_pos rfl]) j (hA' j hj)
        rwa [getD_set1 hil, if_neg (by omega)] at this
      have hfl : ∀ e, e ≠ i → l.getD e false = decide (e < i) := by
        intro e hne
        rcases Nat.lt_or_ge e i with h | h
        · rw [hall e h]; simp [h]
        · rw [Array.getD_eq_getD_getElem?, Array.getElem?_eq_none_iff.2 (by omega)]
          simp; omega
      rw [hfl e1 hN1, hfl e2 hN2] at x5
      have hx : x = ((AF.put (some u1) (x.tmps.getD u1 undef)).put (some u2) (x.tmps.getD u2 undef)) := by
        have e1' : x.tmps = ((AF.put (some u1) (x.tmps.getD u1 undef)).put (some u2) (x.tmps.getD u2 undef)).tmps := by
          refine Array.ext_getElem? fun t => ?_
          have hs3 : (AF.put (some u1) (x.tmps.getD u1 undef)).tmps.size = x.tmps.size := by rw [x2, ← hsz]; simp [Act.put]
          rw [put_at, hs3]
          by_cases c2 : u2 = t
          · subst c2
            rw [if_pos rfl]
            by_cases hlt : u2 < x.tmps.size
            · rw [if_pos hlt, actGet_of hlt]
            · rw [if_neg hlt, actGet_none hlt]
          · rw [if_neg c2, put_at, hsz, ← x2]
            by_cases c1 : u1 = t
            · subst c1
              rw [if_pos rfl]
              by_cases hlt : u1 < x.tmps.size
              · rw [if_pos hlt, actGet_of hlt]
              · rw [if_neg hlt, actGet_none hlt]
            · rw [if_neg c1]
              by_cases hc : ∃ j, j < i ∧ dstOf ops j = some t
              · obtain ⟨j, hj, hjt⟩ := hc
                have hoj : ops[j]? = some ops[j] := Array.getElem?_eq_getElem (by omega)
                have hCj := chain_at hH hj hoj
                have m1 : j ≠ e1 := fun e => by have := hCj.at1 e; rw [hjt] at this; exact c1 (Option.some.inj this).symm
                have m2 : j ≠ e2 := fun e => by have := hCj.at2 m1 e; rw [hjt] at this; exact c2 (Option.some.inj this).symm
                exact x3 j hj m1 m2 (hall j hj) t hjt
              · have hno : ∀ j, j < i → dstOf ops j ≠ some t := fun j hj e => hc ⟨j, hj, e⟩
                rw [x4 t (fun j hj e => absurd e (hno j hj)), hsame t (fun j hj _ _ => hno j hj)]
        have e2' : x.defers = ((AF.put (some u1) (x.tmps.getD u1 undef)).put (some u2) (x.tmps.getD u2 undef)).defers := by rw [x1, ← hdf]; rfl
        exact act_ext e1' e2'
      have ht := tail _ _ W x5
      rw [← hx] at ht
      refine wpOp_mono ?_ ht
      intro a' w' h
      exact ⟨hs2, hS2, Or.inl ⟨by rw [getD_set1 hil, if_pos rfl], h⟩⟩
  · rintro l x W ⟨hs, hS, hJ⟩ hall
    rcases hJ with ⟨_, j⟩ | ⟨j, _⟩
    · exact j
    · rw [hall N (by omega)] at j; cases j
end

end Go.Proofs.YtpdhkgfdmpofiaaGreatDoor
