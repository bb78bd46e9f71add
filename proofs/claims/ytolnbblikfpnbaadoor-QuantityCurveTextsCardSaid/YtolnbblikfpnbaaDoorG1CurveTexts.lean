/-
  Inside a fence: a region that draws its order, of operations that read, and one call, and one operation behind it: one walk of each operation, from whatever others have been carried out.
-/
import Derived.Test.YtolnbblikfpnbaaDoorG0CurveTexts
import Derived.OrdersIn
import Derived.Deep.DeepCutAuto
import Derived.Test.YtolnbblikfpnbaaDoorRows
set_option linter.unusedSimpArgs false
set_option linter.unusedVariables false
namespace Go.Proofs.YtolnbblikfpnbaaDoor
open Go.RowKit

section
variable {F : Fence} {n : Nat} {P : Program} {ops : Array Oper} {Q : Exit → Act → World → Prop}

/-- What an operation waits for. -/
def waits (ops : Array Oper) (i : Nat) : List Nat := ((ops[i]?).map fun o => (o.after.toList.filter (Region.binds .any)).map (·.on)).getD []
def ancs (ops : Array Oper) : Nat → Nat → List Nat
  | 0, _ => []
  | f + 1, i => waits ops i ++ (waits ops i).flatMap (ancs ops f)
def Shut (ops : Array Oper) (l : Array Bool) : Prop := ∀ i, l.getD i false = true → ∀ j ∈ waits ops i, l.getD j false = true
theorem Shut.anc {l : Array Bool} (h : Shut ops l) : ∀ f i, l.getD i false = true → ∀ j ∈ ancs ops f i, l.getD j false = true := by
  intro f
  induction f with
  | zero => intro i _ j hj; cases hj
  | succ f ih =>
    intro i hi j hj
    rcases List.mem_append.1 hj with hj | hj
    · exact h i hi j hj
    · obtain ⟨k, hk, hkj⟩ := List.mem_flatMap.1 hj
      exact ih k (h i hi k hk) j hkj
theorem waits_ok {l : Array Bool} {i : Nat} {o : Oper} (ho : ops[i]? = some o) (h : (o.after.all fun e => !Region.binds .any e || l.getD e.on false) = true) : ∀ j ∈ waits ops i, l.getD j false = true := by
  intro j hj
  unfold waits at hj
  rw [ho] at hj
  simp only [Option.map_some, Option.getD_some] at hj
  obtain ⟨e, he, rfl⟩ := List.mem_map.1 hj
  obtain ⟨he1, he2⟩ := List.mem_filter.1 he
  rw [Array.all_eq_true'] at h
  have := h e (by simpa using he1)
  rw [he2] at this
  simpa using this
theorem getD_tf {l : Array Bool} {i : Nat} (h : l.getD i true = false) : l.getD i false = false := by
  rw [Array.getD_eq_getD_getElem?] at h ⊢
  cases hx : l[i]? with
  | none => rw [hx] at h; simp at h
  | some x => rw [hx] at h; simpa using h
theorem getD_ft {l : Array Bool} {i : Nat} (hi : i < l.size) (h : l.getD i false = true) : l.getD i true = true := by
  rw [Array.getD_eq_getD_getElem?] at h ⊢
  rw [Array.getElem?_eq_getElem hi] at h ⊢
  simpa using h
theorem getD_tt {l : Array Bool} {i : Nat} (hi : i < l.size) (h : l.getD i true = true) : l.getD i false = true := by
  rw [Array.getD_eq_getD_getElem?] at h ⊢
  rw [Array.getElem?_eq_getElem hi] at h ⊢
  simpa using h
theorem getD_set1 {l : Array Bool} {i j : Nat} {b : Bool} (hi : i < l.size) : (l.setIfInBounds i true).getD j b = if i = j then true else l.getD j b := by
  rw [Array.getD_eq_getD_getElem?, Array.getD_eq_getD_getElem?, Array.getElem?_setIfInBounds]
  split
  · simp [hi]
  · rfl
theorem Shut.set {l : Array Bool} {i : Nat} (h : Shut ops l) (hi : i < l.size) (hw : ∀ j ∈ waits ops i, l.getD j false = true) : Shut ops (l.setIfInBounds i true) := by
  intro k hk j hj
  rw [getD_set1 hi] at hk ⊢
  split
  · rfl
  · by_cases e : i = k
    · subst e; exact hw j hj
    · rw [if_neg e] at hk
      exact h k hk j hj

theorem any_invIn (he : early ops = true) (I : Array Bool → Act → World → Prop) (hsz : ∀ l a w, I l a w → l.size = ops.size)
    (step : ∀ i o, ops[i]? = some o → ∀ l a w, I l a w → l.getD i true = false → (o.after.all fun e => !Region.binds .any e || l.getD e.on false) = true → wpOpIn F n P ops Q i (I (l.setIfInBounds i true)) a w)
    (done : ∀ l a w, I l a w → (∀ i, i < ops.size → l.getD i true = true) → Q .normal a w) :
    ∀ fuel l a w, I l a w → left l ≤ fuel → wpAnyIn F n P .any ops Q fuel l a w := by
  intro fuel
  induction fuel with
  | zero =>
    intro l a w hI hf
    have hr : Region.ready .any ops l = [] := by
      rw [List.eq_nil_iff_forall_not_mem]
      intro i hi
      obtain ⟨h1, h2, _⟩ := ready_iff hi
      have := left_set (by rw [hsz l a w hI]; exact h1) h2
      omega
    exact ⟨hr, done l a w hI (all_listed (hsz l a w hI) he hr)⟩
  | succ n ih =>
    intro l a w hI hf
    refine ⟨fun hr => done l a w hI (all_listed (hsz l a w hI) he hr), fun i hi => ?_⟩
    obtain ⟨h1, h2, h3⟩ := ready_iff hi
    have ho : ops[i]? = some ops[i] := Array.getElem?_eq_getElem h1
    have hl := left_set (by rw [hsz l a w hI]; exact h1) h2
    exact wpOpIn_mono (fun a' w' h' => ih _ a' w' h' (by omega)) (step i _ ho l a w hI h2 (h3 _ ho))

/-- THE RULE: N operations that read alone; the call; what stands behind it. -/
theorem regionIn_head {id : Nat} {a : Act} {w : World} (N : Nat) (hm : P.follows .mixedOrders = true) (he : early ops = true) (hs0 : ops.size = N + 2)
    (hA : ((List.range N).all fun j => (ancs ops 6 N).contains j) = true) (hB : (waits ops (N + 1)).contains N = true) (I : Array Bool → Act → Prop) (h0 : I (Array.replicate ops.size false) a)
    (step : ∀ i o, i < N → ops[i]? = some o → ∀ l a, I l a → l.size = ops.size → l.getD i true = false → (o.after.all fun e => !Region.binds .any e || l.getD e.on false) = true →
      wpOpIn F n P ops Q i (fun a' w' => w' = w.drew ∧ I (l.setIfInBounds i true) a') a w.drew)
    (tail : ∀ l a, I l a → l.size = ops.size → (∀ j, j < N → l.getD j true = true) → wpOpIn F n P ops Q N (fun a1 w1 => wpOpIn F n P ops Q (N + 1) (fun a2 w2 => Q .normal a2 w2) a1 w1) a w.drew) :
    (Code.region id ops true).wpIn F n P Q a w := by
  have hA' : ∀ j, j < N → j ∈ ancs ops 6 N := fun j hj => by simpa using List.all_eq_true.1 hA j (List.mem_range.2 hj)
  have hB' : N ∈ waits ops (N + 1) := by simpa using hB
  refine wpIn_region_any hm (any_invIn he (fun l a w' => l.size = ops.size ∧ Shut ops l ∧ ((l.getD N true = false ∧ l.getD (N + 1) true = false ∧ w' = w.drew ∧ I l a) ∨
    (l.getD N false = true ∧ l.getD (N + 1) true = false ∧ wpOpIn F n P ops Q (N + 1) (fun a2 w2 => Q .normal a2 w2) a w') ∨ (l.getD N false = true ∧ l.getD (N + 1) false = true ∧ Q .normal a w'))) (fun l a w h => h.1) ?_ ?_ ops.size _ _ _ ?_ (by rw [left_new]; exact Nat.le_refl _))
  · rintro i o ho l a w' ⟨hs, hS, hJ⟩ hl hd
    have hio : i < ops.size := (Array.getElem?_eq_some_iff.1 ho).1
    have hil : i < l.size := by rw [hs]; exact hio
    have hw := waits_ok ho hd
    have hS2 := hS.set hil hw
    have hs2 : (l.setIfInBounds i true).size = ops.size := by simpa using hs
    have hi3 : i < N ∨ i = N ∨ i = N + 1 := by omega
    rcases hi3 with hi | rfl | rfl
    · rcases hJ with ⟨j1, j2, rfl, j3⟩ | ⟨j1, _⟩ | ⟨j1, _⟩
      · refine wpOpIn_mono ?_ (step i o hi ho l a j3 hs hl hd)
        rintro a' w'' ⟨rfl, h⟩
        refine ⟨hs2, hS2, Or.inl ⟨?_, ?_, rfl, h⟩⟩
        · rw [getD_set1 hil, if_neg (by omega)]; exact j1
        · rw [getD_set1 hil, if_neg (by omega)]; exact j2
      · exact absurd (hS.anc 6 N j1 i (hA' i hi)) (by rw [getD_tf hl]; decide)
      · exact absurd (hS.anc 6 N j1 i (hA' i hi)) (by rw [getD_tf hl]; decide)
    · rcases hJ with ⟨j1, j2, rfl, j3⟩ | ⟨j1, _⟩ | ⟨j1, _⟩
      · have hall : ∀ j, j < i → l.getD j true = true := by
          intro j hj
          have := hS2.anc 6 i (by rw [getD_set1 hil, if_pos rfl]) j (hA' j hj)
          rw [getD_set1 hil, if_neg (by omega)] at this
          exact getD_ft (by omega) this
        refine wpOpIn_mono ?_ (tail l a j3 hs hall)
        intro a' w'' h
        refine ⟨hs2, hS2, Or.inr (Or.inl ⟨?_, ?_, h⟩)⟩
        · rw [getD_set1 hil, if_pos rfl]
        · rw [getD_set1 hil, if_neg (by omega)]; exact j2
      · exact absurd j1 (by rw [getD_tf hl]; decide)
      · exact absurd j1 (by rw [getD_tf hl]; decide)
    · have hN := hw N hB'
      rcases hJ with ⟨j1, _⟩ | ⟨j1, j2, j3⟩ | ⟨_, j1, _⟩
      · exact absurd hN (by rw [getD_tf j1]; decide)
      · refine wpOpIn_mono ?_ j3
        intro a' w'' h
        refine ⟨hs2, hS2, Or.inr (Or.inr ⟨?_, ?_, h⟩)⟩
        · rw [getD_set1 hil, if_neg (by omega)]; exact j1
        · rw [getD_set1 hil, if_pos rfl]
      · exact absurd j1 (by rw [getD_tf hl]; decide)
  · rintro l a w' ⟨hs, hS, hJ⟩ hall
    rcases hJ with ⟨j1, _⟩ | ⟨_, j1, _⟩ | ⟨_, _, j⟩
    · rw [hall N (by omega)] at j1; cases j1
    · rw [hall (N + 1) (by omega)] at j1; cases j1
    · exact j
  · refine ⟨by simp, fun i hi => ?_, Or.inl ⟨?_, ?_, rfl, h0⟩⟩
    · rw [Array.getD_eq_getD_getElem?] at hi
      by_cases h : i < ops.size
      · simp [h] at hi
      · simp [h] at hi
    · simp [Array.getD_eq_getD_getElem?, hs0]
    · simp [Array.getD_eq_getD_getElem?, hs0]

theorem wpOpIn_plain {i : Nat} {o : Oper} {K : Act → World → Prop} {a : Act} {w : World} (hi : ops[i]? = some o) (hg : o.guard = none) (h : o.wpIn F n P a w K Q) : wpOpIn F n P ops Q i K a w := by
  unfold wpOpIn
  rw [hi]
  simp only [Region.wanted, hg, if_true]
  exact h
theorem step_in {i : Nat} {K : Act → World → Prop} {a : Act} {w : World} {a' : Act} {w' : World} (h : ∀ K' : Act → World → Prop, K' a' w' → wpOpIn F n P ops Q i K' a w) (hk : K a' w') : wpOpIn F n P ops Q i K a w := h K hk
end

end Go.Proofs.YtolnbblikfpnbaaDoor

/-
  Inside a fence: the same rule, where each reading operation is carried out in the frame that all of them leave.
-/
set_option linter.unusedSimpArgs false
set_option linter.unusedVariables false
namespace Go.Proofs.YtolnbblikfpnbaaDoor
open Go.RowKit

section
variable {F : Fence} {n : Nat} {P : Program} {ops : Array Oper} {Q : Exit → Act → World → Prop}

def dstOf (ops : Array Oper) (i : Nat) : Option Nat := (ops[i]?).bind (·.dst)
def plainOp : Op → Bool
  | .select .. => false
  | .defer .. => false
  | _ => true
/-- What is asked of the N operations: no guard; each writes a slot of its own; what it looks at is written by operations that it waits for, or by none of them. -/
def headB (ops : Array Oper) (N : Nat) : Bool := (List.range N).all fun i => match ops[i]? with
  | none => false
  | some o => o.guard.isNone && plainOp o.op && o.dst.isSome && (o.op.operands.all fun x => match x with
      | .tmp t => (List.range N).all fun j => decide (dstOf ops j ≠ some t) || (waits ops i).contains j
      | _ => true) && (List.range N).all fun j => decide (j = i) || decide (dstOf ops j ≠ dstOf ops i)
structure HeadAt (ops : Array Oper) (N i : Nat) (o : Oper) : Prop where
  guard : o.guard = none
  sel : ∀ cs b, o.op ≠ .select cs b
  dfr : ∀ c, o.op ≠ .defer c
  dst : ∃ d, o.dst = some d
  looks : ∀ t, Operand.tmp t ∈ o.op.operands → ∀ j, j < N → dstOf ops j = some t → j ∈ waits ops i
  one : ∀ j, j < N → j ≠ i → dstOf ops j ≠ dstOf ops i
theorem head_at {N i : Nat} {o : Oper} (h : headB ops N = true) (hi : i < N) (ho : ops[i]? = some o) : HeadAt ops N i o := by
  have h1 := List.all_eq_true.1 h i (List.mem_range.2 hi)
  rw [ho] at h1
  simp only [Bool.and_eq_true] at h1
  obtain ⟨⟨⟨⟨h1, h2⟩, h3⟩, h4⟩, h5⟩ := h1
  refine ⟨by simpa using h1, ?_, ?_, Option.isSome_iff_exists.1 h3, ?_, ?_⟩
  · intro cs b e; rw [e] at h2; simp [plainOp] at h2
  · intro c e; rw [e] at h2; simp [plainOp] at h2
  · intro t ht j hj hd
    rw [Array.all_eq_true'] at h4
    have h6 := h4 (.tmp t) ht
    have h7 := List.all_eq_true.1 h6 j (List.mem_range.2 hj)
    simp only [Bool.or_eq_true, decide_eq_true_eq] at h7
    rcases h7 with h7 | h7
    · exact absurd hd h7
    · simpa using h7
  · intro j hj hne
    have h6 := List.all_eq_true.1 h5 j (List.mem_range.2 hj)
    simp only [Bool.or_eq_true, decide_eq_true_eq] at h6
    rcases h6 with h6 | h6
    · exact absurd h6 hne
    · exact h6

theorem eval_same {a b : Act} {x : Operand} (h : ∀ t, x = .tmp t → a.tmps[t]? = b.tmps[t]?) : a.eval x = b.eval x := by
  cases x with
  | tmp t => simp only [Act.eval, Array.getD_eq_getD_getElem?]; rw [h t rfl]
  | const v => rfl
  | global g => rfl
  | func f => rfl

/-- What each of the N operations does in the frame AF. -/
def OpVal (P : Program) (AF : Act) (w : World) (o : Oper) : Prop := ∃ d v, o.dst = some d ∧ AF.tmps[d]? = some v ∧ (execOp AF.eval o).run P w = .ok (.value v) w ∧ o.about P w AF.eval = none
def AllVals (P : Program) (AF : Act) (w : World) : List Oper → Prop
  | [] => True
  | o :: l => OpVal P AF w o ∧ AllVals P AF w l
theorem AllVals.at_ {AF : Act} {w : World} : ∀ {l : List Oper}, AllVals P AF w l → ∀ (i : Nat) (o : Oper), l[i]? = some o → OpVal P AF w o := by
  intro l
  induction l with
  | nil => intro _ i o h; simp at h
  | cons x l ih =>
    intro h i o ho
    cases i with
    | zero => simp at ho; subst ho; exact h.1
    | succ i => exact ih h.2 i o (by simpa using ho)

theorem regionIn_final {id : Nat} {a : Act} {w : World} (N : Nat) (AF : Act) (hm : P.follows .mixedOrders = true) (he : early ops = true) (hs0 : ops.size = N + 2)
    (hA : ((List.range N).all fun j => (ancs ops 6 N).contains j) = true) (hB : (waits ops (N + 1)).contains N = true) (hH : headB ops N = true)
    (hdf : AF.defers = a.defers) (hsz : AF.tmps.size = a.tmps.size) (hsame : ∀ t, (∀ j, j < N → dstOf ops j ≠ some t) → AF.tmps[t]? = a.tmps[t]?)
    (hv : AllVals P AF w.drew (ops.toList.take N))
    (tail : wpOpIn F n P ops Q N (fun a1 w1 => wpOpIn F n P ops Q (N + 1) (fun a2 w2 => Q .normal a2 w2) a1 w1) AF w.drew) :
    (Code.region id ops true).wpIn F n P Q a w := by
  have hval : ∀ i o, i < N → ops[i]? = some o → OpVal P AF w.drew o := fun i o hi ho => hv.at_ i o (by
    rw [List.getElem?_take_of_lt hi, Array.getElem?_toList]; exact ho)
  refine regionIn_head N hm he hs0 hA hB (fun l x => x.defers = a.defers ∧ x.tmps.size = a.tmps.size ∧ (∀ j, j < N → l.getD j false = true → ∀ t, dstOf ops j = some t → x.tmps[t]? = AF.tmps[t]?) ∧
    (∀ t, (∀ j, j < N → dstOf ops j = some t → l.getD j false = false) → x.tmps[t]? = a.tmps[t]?)) ?_ ?_ ?_
  · refine ⟨rfl, rfl, fun j hj h => ?_, fun _ _ => rfl⟩
    rw [Array.getD_eq_getD_getElem?] at h
    simp [hs0, show j < N + 2 by omega] at h
  · rintro i o hi ho l x ⟨x1, x2, x3, x4⟩ hls hl hd
    have hH' := head_at hH hi ho
    obtain ⟨d, v, hd1, hd2, hd3, hd4⟩ := hval i o hi ho
    have hw := waits_ok ho hd
    have hdi : dstOf ops i = some d := by unfold dstOf; rw [ho]; exact hd1
    have hev : ∀ y ∈ o.op.operands, x.eval y = AF.eval y := by
      intro y hy
      refine eval_same fun t ht => ?_
      subst ht
      by_cases hc : ∃ j, j < N ∧ dstOf ops j = some t
      · obtain ⟨j, hj, hjt⟩ := hc
        exact x3 j hj (hw j (hH'.looks t hy j hj hjt)) t hjt
      · have hno : ∀ j, j < N → dstOf ops j ≠ some t := fun j hj e => hc ⟨j, hj, e⟩
        rw [x4 t (fun j hj e => absurd e (hno j hj)), hsame t hno]
    have hex := execOp_congr o hH'.sel hev
    have hab := about_congr (P := P) o w.drew hev
    unfold wpOpIn
    rw [ho]
    simp only [Region.wanted, hH'.guard, if_true]
    unfold Oper.wpIn
    rw [Oper.semAt_eq _ _ _ hH'.dfr, hex, hd3, hab, hd4]
    refine ⟨fun f hf => (by cases hf), ?_⟩
    rw [Oper.uponIn_value, hd1]
    have hil : i < l.size := by rw [hls]; exact (Array.getElem?_eq_some_iff.1 ho).1
    refine ⟨rfl, x1, by simpa [Act.put] using x2, ?_, ?_⟩
    · intro j hj hjl t hjt
      simp only [Act.put]
      rw [Array.getElem?_setIfInBounds]
      by_cases e : d = t
      · subst e
        have hlt : d < x.tmps.size := by rw [x2, ← hsz]; exact (Array.getElem?_eq_some_iff.1 hd2).1
        rw [if_pos rfl, if_pos hlt, hd2]
      · rw [if_neg e]
        have hji : j ≠ i := fun c => by subst c; rw [hdi] at hjt; exact e (Option.some.inj hjt)
        rw [getD_set1 hil, if_neg (fun c => hji c.symm)] at hjl
        exact x3 j hj hjl t hjt
    · intro t ht
      simp only [Act.put]
      rw [Array.getElem?_setIfInBounds]
      have hdt : d ≠ t := fun c => by
        subst c
        have := ht i hi hdi
        rw [getD_set1 hil, if_pos rfl] at this
        cases this
      rw [if_neg hdt]
      refine x4 t fun j hj hjt => ?_
      have := ht j hj hjt
      rw [getD_set1 hil] at this
      split at this
      · cases this
      · exact this
  · rintro l x ⟨x1, x2, x3, x4⟩ hls hall
    have hx : x = AF := by
      obtain ⟨xt, xd⟩ := x
      obtain ⟨ft, fd⟩ := AF
      dsimp only at *
      have e1 : xt = ft := by
        refine Array.ext_getElem? fun t => ?_
        by_cases hc : ∃ j, j < N ∧ dstOf ops j = some t
        · obtain ⟨j, hj, hjt⟩ := hc
          exact x3 j hj (getD_tt (by omega) (hall j hj)) t hjt
        · have hno : ∀ j, j < N → dstOf ops j ≠ some t := fun j hj e => hc ⟨j, hj, e⟩
          rw [x4 t (fun j hj e => absurd e (hno j hj)), hsame t hno]
      rw [e1, x1, hdf]
    rw [hx]
    exact tail

theorem updAll_defers (a : Act) (l : List (Nat × Value)) : (updAll a l).defers = a.defers := by
  induction l with
  | nil => rfl
  | cons p l ih => exact ih
theorem updAll_size (a : Act) (l : List (Nat × Value)) : (updAll a l).tmps.size = a.tmps.size := by
  induction l with
  | nil => rfl
  | cons p l ih => simpa [updAll, Act.put] using ih
theorem updAll_same (a : Act) (l : List (Nat × Value)) (t : Nat) (h : ∀ p ∈ l, p.1 ≠ t) : (updAll a l).tmps[t]? = a.tmps[t]? := by
  induction l with
  | nil => rfl
  | cons p l ih =>
    have h1 := h p (List.mem_cons_self ..)
    simp only [updAll, Act.put]
    rw [Array.getElem?_setIfInBounds, if_neg h1]
    exact ih (fun q hq => h q (List.mem_cons_of_mem _ hq))
theorem regionIn_vals0 {id : Nat} {a : Act} {w : World} (N : Nat) (vals : List (Nat × Value)) (hm : P.follows .mixedOrders = true) (he : early ops = true) (hs0 : ops.size = N + 2)
    (hA : ((List.range N).all fun j => (ancs ops 6 N).contains j) = true) (hB : (waits ops (N + 1)).contains N = true) (hH : headB ops N = true)
    (hds : vals.map (fun p => some p.1) = (List.range N).map (dstOf ops)) (hv : AllVals P (updAll a vals) w.drew (ops.toList.take N))
    (tail : wpOpIn F n P ops Q N (fun a1 w1 => wpOpIn F n P ops Q (N + 1) (fun a2 w2 => Q .normal a2 w2) a1 w1) (updAll a vals) w.drew) :
    (Code.region id ops true).wpIn F n P Q a w :=
  regionIn_final N (updAll a vals) hm he hs0 hA hB hH (updAll_defers _ _) (updAll_size _ _) (fun t ht => updAll_same _ _ _ fun p hp e => by
    have h1 : some p.1 ∈ vals.map (fun p => some p.1) := List.mem_map.2 ⟨p, hp, rfl⟩
    rw [hds] at h1
    obtain ⟨j, hj, hjd⟩ := List.mem_map.1 h1
    exact ht j (List.mem_range.1 hj) (by rw [hjd, e])) hv tail
theorem regionIn_vals {id : Nat} {a : Act} {w : World} (N : Nat) (vals : List (Nat × Value)) (_ : F.round = none) (hm : P.follows .mixedOrders = true) (he : early ops = true) (hs0 : ops.size = N + 2)
    (hA : ((List.range N).all fun j => (ancs ops 6 N).contains j) = true) (hB : (waits ops (N + 1)).contains N = true) (hH : headB ops N = true)
    (hds : vals.map (fun p => some p.1) = (List.range N).map (dstOf ops)) (hv : AllVals P (updAll a vals) w.drew (ops.toList.take N))
    (tail : wpOpIn F n P ops Q N (fun a1 w1 => wpOpIn F n P ops Q (N + 1) (fun a2 w2 => Q .normal a2 w2) a1 w1) (updAll a vals) w.drew) :
    (Code.region id ops true).wpIn F n P Q a w := regionIn_vals0 N vals hm he hs0 hA hB hH hds hv tail
end

end Go.Proofs.YtolnbblikfpnbaaDoor

/-
  What a region keeps: a list of cells below a bound, and what was in memory.
-/
set_option linter.unusedSimpArgs false
set_option linter.unusedVariables false
namespace Go.Proofs.YtolnbblikfpnbaaDoor
open Go.RowKit

/-- The cells of l lie in blocks below B, and hold what l says; nothing that was in memory at w has changed. -/
def Cs (w : World) (B : Nat) (l : List (Nat × Nat × Value)) (W : World) : Prop := (∀ c ∈ l, W.cell? ⟨c.1, c.2.1, none⟩ = some c.2.2 ∧ c.1 < B) ∧ w.heap.size ≤ B ∧ Below w.heap.size w W
theorem Cs.at_ {w W : World} {B p o : Nat} {v : Value} {l : List (Nat × Nat × Value)} (h : Cs w B l W) (hm : (p, o, v) ∈ l) : W.cell? ⟨p, o, none⟩ = some v := (h.1 _ hm).1
theorem Cs.lt {w W : World} {B p o : Nat} {v : Value} {l : List (Nat × Nat × Value)} (h : Cs w B l W) (hm : (p, o, v) ∈ l) : p < B := (h.1 _ hm).2
theorem Cs.bel {w W : World} {B : Nat} {l : List (Nat × Nat × Value)} (h : Cs w B l W) : Below w.heap.size w W := h.2.2
theorem Cs.step {w W w2 : World} {B : Nat} {l : List (Nat × Nat × Value)} (h : Cs w B l W) (hb : Below W.heap.size W w2) : Cs w B l w2 :=
  ⟨fun c hc => ⟨cell_step (h.1 c hc).1 hb, (h.1 c hc).2⟩, h.2.1, bStep h.2.2 hb⟩
theorem Cs.alloc {w W : World} {B : Nat} {l : List (Nat × Nat × Value)} {o : Obj} (h : Cs w B l W) : Cs w B l (W.alloc o) := h.step ((Below.refl _ _).alloc (Nat.le_refl _) _)
theorem Cs.drew {w W : World} {B : Nat} {l : List (Nat × Nat × Value)} (h : Cs w B l W) : Cs w B l W.drew := h.step (Below.refl _ _).drew
theorem Cs.drewN {w W : World} {B n : Nat} {l : List (Nat × Nat × Value)} (h : Cs w B l W) : Cs w B l (W.drewN n) := h.step (bDrewN (Below.refl _ _))
theorem Cs.set {w W : World} {B : Nat} {l : List (Nat × Nat × Value)} {r o : Nat} {v : Value} (h : Cs w B l W) (hr : B ≤ r) : Cs w B l (W.setCell ⟨r, o, none⟩ v) :=
  ⟨fun c hc => ⟨cell_set_far (h.1 c hc).1 (by have := (h.1 c hc).2; omega), (h.1 c hc).2⟩, h.2.1, bSet h.2.2 (show w.heap.size ≤ r by have := h.2.1; omega) _⟩
theorem Cs.nil {w W : World} {B : Nat} (h1 : w.heap.size ≤ B) (h2 : Below w.heap.size w W) : Cs w B [] W := ⟨fun _ h => (by cases h), h1, h2⟩
theorem Cs.cons {w W : World} {B p o : Nat} {v : Value} {l : List (Nat × Nat × Value)} (h : Cs w B l W) (hc : W.cell? ⟨p, o, none⟩ = some v) (hp : p < B) : Cs w B ((p, o, v) :: l) W := by
  refine ⟨fun c hm => ?_, h.2⟩
  rcases List.mem_cons.1 hm with rfl | hm
  · exact ⟨hc, hp⟩
  · exact h.1 c hm
theorem Cs.sub {w W : World} {B B2 : Nat} {l m : List (Nat × Nat × Value)} (h : Cs w B l W) (hs : ∀ c ∈ m, c ∈ l) (hB : B ≤ B2) : Cs w B2 m W :=
  ⟨fun c hm => ⟨(h.1 c (hs c hm)).1, Nat.lt_of_lt_of_le (h.1 c (hs c hm)).2 hB⟩, Nat.le_trans h.2.1 hB, h.2.2⟩
theorem Cs.grow {w W : World} {B : Nat} {l : List (Nat × Nat × Value)} (h : Cs w B l W) : Cs w W.heap.size l W :=
  ⟨fun c hc => ⟨(h.1 c hc).1, cell_lt (h.1 c hc).1⟩, h.2.2.size, h.2.2⟩

end Go.Proofs.YtolnbblikfpnbaaDoor

/-
  The plain arithmetic of layer 1 (quantity): x n / d for whole numbers, bit by bit, and rounded down; no program in sight.
-/
set_option linter.unusedSimpArgs false
set_option linter.unusedVariables false
namespace Go.Proofs.YtolnbblikfpnbaaDoor
namespace Pl

/-- What stands for a number far beyond a quantity. -/
def FAR : Int := 1152921504606846976
/-- From here on a partial quotient is far. -/
def LIM : Int := 288230376151711744
/-- The greatest quantity. -/
def MQ : Int := 1099511627776

theorem FAR_val : FAR = 1152921504606846976 := rfl
theorem LIM_val : LIM = 288230376151711744 := rfl
theorem MQ_val : MQ = 1099511627776 := rfl

/-- The quotient that 'divide' returns, for numbers from 0 on. -/
def dvq (x n d : Int) : Int := if LIM < x * n / d then FAR else x * n / d
/-- The rest that 'divide' returns. -/
def dvr (x n d : Int) : Int := if LIM < x * n / d then 0 else x * n % d

/-- The first i of 44 binary digits of n. -/
def top (n : Int) (i : Nat) : Int := n / 2 ^ (44 - i)

theorem top_zero {n : Int} (h0 : 0 ≤ n) (h : n < 17592186044416) : top n 0 = 0 := by
  unfold top
  exact Int.ediv_eq_zero_of_lt h0 (by simpa using h)
theorem top_end (n : Int) : top n 44 = n := by simp [top]
theorem top_nonneg {n : Int} (h0 : 0 ≤ n) (i : Nat) : 0 ≤ top n i := by
  unfold top
  exact Int.ediv_nonneg h0 (Int.le_of_lt (Int.pow_pos (by decide)))
theorem top_le {n : Int} (h0 : 0 ≤ n) (i : Nat) : top n i ≤ n := by
  unfold top
  exact Int.ediv_le_self _ h0
theorem top_step (n : Int) (i : Nat) (hi : i < 44) : top n (i + 1) = 2 * top n i + n / 2 ^ (43 - i) % 2 := by
  unfold top
  have e : 44 - i = (43 - i) + 1 := by omega
  have e' : 44 - (i + 1) = 43 - i := by omega
  rw [e, e', Int.pow_succ, ← Int.ediv_ediv_of_nonneg (Int.le_of_lt (Int.pow_pos (by decide)))]
  generalize n / 2 ^ (43 - i) = m
  omega

/-- One digit more: the quotient and the rest. -/
theorem digit {x d m b : Int} (hd : 0 < d) :
    let q := x * m / d; let r := x * m % d
    x * (2 * m + b) / d = 2 * q + b * (x / d) + (2 * r + b * (x % d)) / d ∧ x * (2 * m + b) % d = (2 * r + b * (x % d)) % d := by
  intro q r
  have h1 : x * m = q * d + r := by have := Int.emod_add_mul_ediv (x * m) d; show x * m = x * m / d * d + x * m % d; rw [Int.mul_comm (x * m / d)]; omega
  have h2 : x = x / d * d + x % d := by have := Int.emod_add_mul_ediv x d; rw [Int.mul_comm (x / d)]; omega
  have h3 : x * (2 * m + b) = (2 * r + b * (x % d)) + (2 * q + b * (x / d)) * d := by
    have e1 : x * (2 * m + b) = 2 * (x * m) + b * x := by rw [Int.mul_add, Int.mul_left_comm, Int.mul_comm x b]
    have e2 : b * x = b * (x / d) * d + b * (x % d) := by
      conv => lhs; rw [h2]
      rw [Int.mul_add, Int.mul_assoc]
    rw [e1, e2, h1, Int.mul_add, Int.add_mul, Int.mul_assoc 2 q d]
    omega
  rw [h3, Int.add_mul_ediv_right _ _ (by omega), Int.add_mul_emod_self_right]
  exact ⟨by omega, rfl⟩

theorem ediv_mono {a b d : Int} (hd : 0 < d) (h : a ≤ b) : a / d ≤ b / d := Int.ediv_le_ediv hd h
theorem mul_mono {x a b : Int} (hx : 0 ≤ x) (h : a ≤ b) : x * a ≤ x * b := Int.mul_le_mul_of_nonneg_left h hx
/-- If a part of the digits has a quotient that is far, so has the whole number. -/
theorem far_of_top {x n d : Int} {i : Nat} (hx : 0 ≤ x) (hn : 0 ≤ n) (hd : 0 < d) (h : LIM < x * top n i / d) : LIM < x * n / d :=
  Int.lt_of_lt_of_le h (ediv_mono hd (mul_mono hx (top_le hn i)))

end Pl
end Go.Proofs.YtolnbblikfpnbaaDoor

/-
  The walks of the arithmetic of package quantity: is, below, sign, b2i, divide, down, up, fit.
-/
set_option linter.unusedSimpArgs false
set_option linter.unusedVariables false
namespace Go.Proofs.YtolnbblikfpnbaaDoor
open Go.RowKit

def isQ (x : Int) : Bool := decide (-1099511627776 ≤ x) && decide (x ≤ 1099511627776)
theorem isQ_iff (x : Int) : isQ x = true ↔ -1099511627776 ≤ x ∧ x ≤ 1099511627776 := by simp [isQ]
theorem isQ_false (x : Int) : isQ x = false ↔ (x < -1099511627776 ∨ 1099511627776 < x) := by
  rw [← Bool.not_eq_true, isQ_iff]; omega
def sg (x : Int) : Int := if x < 0 then -1 else if 0 < x then 1 else 0

set_option maxHeartbeats 400000 in
theorem is_any (x : Int) (w : World) : Calls Tryd.prog 30 #[.int .i64 x] w fun e w' => e = .returned (.bool (isQ x)) ∧ w = w' := by
  have hq : isQ x = (decide (-1099511627776 ≤ x) && decide (x ≤ 1099511627776)) := rfl
  rw [hq]; clear hq
  go_enter Tryd.func30, Tryd.ntmps30
  go_wp2
  all_goals
    go_ret
    exact ⟨by simp [*] <;> omega, rfl⟩

set_option maxHeartbeats 400000 in
theorem sign_any (x : Int) (w : World) : Calls Tryd.prog 50 #[.int .i64 x] w fun e w' => e = .returned (.int .i64 (sg x)) ∧ w = w' := by
  unfold sg
  go_enter Tryd.func50, Tryd.ntmps50
  go_wp2
  all_goals
    go_ret
    exact ⟨by simp [*], rfl⟩

/-- 'a & 1' on an int64 that is not below 0. -/
theorem and_one_i64 (a : Int) (h0 : 0 ≤ a) (h1 : a ≤ 9223372036854775807) : bits BinOp.and IntKind.i64 a 1 = a % 2 := by
  obtain ⟨n, rfl⟩ := Int.eq_ofNat_of_zero_le h0
  have h2 : (BitVec.ofInt 64 (n : Int)).toNat = n := by
    rw [BitVec.ofInt_natCast, BitVec.toNat_ofNat]; exact Nat.mod_eq_of_lt (by omega)
  have h3 : (BitVec.ofInt 64 (1 : Int)).toNat = 1 := by rfl
  show IntKind.i64.wrap ((BitVec.ofInt 64 (n : Int) &&& BitVec.ofInt 64 (1 : Int)).toNat : Int) = _
  rw [BitVec.toNat_and, h2, h3, Nat.and_one_is_mod]
  have h4 : ((n % 2 : Nat) : Int) = (n : Int) % 2 := by omega
  rw [h4]
  exact IntWalk.i64_in _ (by omega)

set_option maxHeartbeats 400000 in
theorem divide_any (x n d : Int) (w : World) (hx0 : 0 ≤ x) (hx : x ≤ 4398046511104) (hn0 : 0 ≤ n) (hn : n ≤ 4398046511104) (hd0 : 1 ≤ d) (hd : d ≤ 4398046511104) :
    Calls Tryd.prog 49 #[.int .i64 x, .int .i64 n, .int .i64 d] w fun e w' => e = .returned (.tuple #[.int .i64 (Pl.dvq x n d), .int .i64 (Pl.dvr x n d)]) ∧ ∃ k, w.drewN k = w' := by
  by_cases h1 : x = 0
  · subst h1
    go_enter Tryd.func49, Tryd.ntmps49
    go_wp2
    go_ret2
    exact ⟨by simp [Pl.dvq, Pl.dvr, Pl.LIM], 0, rfl⟩
  by_cases h2 : n = 0
  · subst h2
    have h1' : (x == 0) = false := by simpa using h1
    clear h1
    go_enter Tryd.func49, Tryd.ntmps49
    go_wp2
    go_ret2
    exact ⟨by simp [Pl.dvq, Pl.dvr, Pl.LIM], 0, rfl⟩
  have h1' : (x == 0) = false := by simpa using h1
  have h2' : (n == 0) = false := by simpa using h2
  clear h1 h2
  go_enter Tryd.func49, Tryd.ntmps49
  go_wp2
  go_quiet (fail)
  go_wp2
  have hw1 : 0 ≤ x / d := Int.ediv_nonneg hx0 (by omega)
  have hw2 : x / d ≤ 4398046511104 := Int.le_trans (Int.ediv_le_self _ hx0) hx
  have hp1 : 0 ≤ x % d := Int.emod_nonneg _ (by omega)
  have hp2 : x % d < d := Int.emod_lt_of_pos _ (by omega)
  generalize hwh : x / d = wh at *
  generalize hpt : x % d = pt at *
  have Hwh := Lib.hid hwh
  have Hpt := Lib.hid hpt
  clear hwh hpt
  go_loop [10, 11, 25] (fun q r i => ∃ (k : Nat) (Q R : Int), k ≤ 44 ∧ i = .int .i64 k ∧ q = .int .i64 Q ∧ r = .int .i64 R ∧ 0 ≤ Q ∧ Q ≤ 288230376151711744 ∧ 0 ≤ R ∧ R < d ∧ Hid (x * Pl.top n k / d = Q ∧ x * Pl.top n k % d = R)) (fun _ _ i => 44 - (intOf i).toNat)
  case atStart => exact ⟨0, 0, 0, by omega, rfl, rfl, rfl, by omega, by omega, by omega, by omega, by rw [Pl.top_zero hn0 (by omega)]; simp [Hid]⟩
  case round =>
    obtain ⟨k, Q, R, hk, rfl, rfl, rfl, hQ0, hQ, hR0, hR, HQ⟩ := hrel
    by_cases hlt : k < 44
    · have e1 : 0 ≤ 2 * R / d := Int.ediv_nonneg (by omega) (by omega)
      have e2 : 2 * R / d ≤ 2 := Int.le_of_lt_add_one (Int.ediv_lt_of_lt_mul (by omega) (by omega))
      have e3 : 0 ≤ (2 * R + pt) / d := Int.ediv_nonneg (by omega) (by omega)
      have e4 : (2 * R + pt) / d ≤ 2 := Int.le_of_lt_add_one (Int.ediv_lt_of_lt_mul (by omega) (by omega))
      have hz : 0 ≤ n / 2 ^ (43 - k) := Int.ediv_nonneg hn0 (Int.le_of_lt (Int.pow_pos (by decide)))
      have hz2 : n / 2 ^ (43 - k) ≤ 9223372036854775807 := Int.le_trans (Int.ediv_le_self _ hn0) (by omega)
      have hb := and_one_i64 (n / 2 ^ (43 - k)) hz hz2
      have hts := Pl.top_step n k hlt
      obtain ⟨q1, q2⟩ := HQ.out
      rcases (show n / 2 ^ (43 - k) % 2 = 0 ∨ n / 2 ^ (43 - k) % 2 = 1 by omega) with hbit | hbit
      · have hbb : (bits BinOp.and IntKind.i64 (n / 2 ^ (43 - k)) 1 == 1) = false := by rw [hb, hbit]; rfl
        have HH : Hid (x * Pl.top n (k + 1) / d = 2 * Q + 2 * R / d ∧ x * Pl.top n (k + 1) % d = 2 * R % d) := by
          have hdg := Pl.digit (x := x) (d := d) (m := Pl.top n k) (b := 0) (by omega)
          rw [hts, hbit, hdg.1, hdg.2, q1, q2]
          simp [Hid]
        clear hb hts q1 q2 hbit hz hz2 e3 e4
        have hr1 : 0 ≤ 2 * R % d := Int.emod_nonneg _ (by omega)
        have hr2 : 2 * R % d < d := Int.emod_lt_of_pos _ (by omega)
        by_cases hf : 288230376151711744 < 2 * Q + 2 * R / d
        · go_wp2
          go_ret2
          have hfar := Pl.far_of_top (i := k + 1) hx0 hn0 (show 0 < d by omega) (by rw [HH.out.1]; exact hf)
          exact ⟨by simp [Pl.dvq, Pl.dvr, hfar, Pl.FAR], nq, rfl⟩
        · go_wp2
          go_round
          case rel => exact ⟨k + 1, _, _, by omega, by go_num, rfl, rfl, by omega, by omega, hr1, hr2, HH⟩
          case measure => simp [intOf]; omega
      · have hbb : (bits BinOp.and IntKind.i64 (n / 2 ^ (43 - k)) 1 == 1) = true := by rw [hb, hbit]; rfl
        have HH : Hid (x * Pl.top n (k + 1) / d = 2 * Q + wh + (2 * R + pt) / d ∧ x * Pl.top n (k + 1) % d = (2 * R + pt) % d) := by
          have hdg := Pl.digit (x := x) (d := d) (m := Pl.top n k) (b := 1) (by omega)
          rw [hts, hbit, hdg.1, hdg.2, q1, q2, Hwh.out, Hpt.out]
          simp [Hid]
        clear hb hts q1 q2 hbit hz hz2 e1 e2
        have hr1 : 0 ≤ (2 * R + pt) % d := Int.emod_nonneg _ (by omega)
        have hr2 : (2 * R + pt) % d < d := Int.emod_lt_of_pos _ (by omega)
        by_cases hf : 288230376151711744 < 2 * Q + wh + (2 * R + pt) / d
        · go_wp2
          go_ret2
          have hfar := Pl.far_of_top (i := k + 1) hx0 hn0 (show 0 < d by omega) (by rw [HH.out.1]; exact hf)
          exact ⟨by simp [Pl.dvq, Pl.dvr, hfar, Pl.FAR], nq, rfl⟩
        · go_wp2
          go_round
          case rel => exact ⟨k + 1, _, _, by omega, by go_num, rfl, rfl, by omega, by omega, hr1, hr2, HH⟩
          case measure => simp [intOf]; omega
    · go_wp2
      go_ret2
      obtain rfl : k = 44 := by omega
      have hq := HQ.out
      rw [Pl.top_end] at hq
      exact ⟨by simp [Pl.dvq, Pl.dvr, hq.1, hq.2, Pl.LIM]; omega, nq, rfl⟩

end Go.Proofs.YtolnbblikfpnbaaDoor

/-
  The walks of down, up, fit, below, ratio's parts, and of their kin in the reference: Is, den, abs, whole, Down, Up, number.
-/
set_option linter.unusedSimpArgs false
set_option linter.unusedVariables false
namespace Go.Proofs.YtolnbblikfpnbaaDoor
open Go.RowKit

theorem sg_mul (x : Int) : x * sg x = (x.natAbs : Int) := by
  unfold sg; split <;> (try split) <;> omega
theorem sg_bd (x : Int) : -1 ≤ sg x ∧ sg x ≤ 1 := by
  unfold sg; split <;> (try split) <;> omega

/-- x n / d, rounded down, as 'down' returns it: what is far is far. -/
def dn (x n d : Int) : Int :=
  if 0 ≤ sg x * sg n * sg d then Pl.dvq x.natAbs n.natAbs d.natAbs
  else if 0 < Pl.dvr x.natAbs n.natAbs d.natAbs then -(Pl.dvq x.natAbs n.natAbs d.natAbs + 1) else -(Pl.dvq x.natAbs n.natAbs d.natAbs)
def up (x n d : Int) : Int := - dn (-x) n d

theorem dvq_bd (x n d : Int) (hx : 0 ≤ x) (hn : 0 ≤ n) (hd : 1 ≤ d) : 0 ≤ Pl.dvq x n d ∧ Pl.dvq x n d ≤ 1152921504606846976 := by
  have h := Int.ediv_nonneg (Int.mul_nonneg hx hn) (show 0 ≤ d by omega)
  unfold Pl.dvq Pl.FAR Pl.LIM
  split <;> omega
theorem dvr_bd (x n d : Int) (hd : 1 ≤ d) : 0 ≤ Pl.dvr x n d ∧ Pl.dvr x n d < d := by
  have h1 := Int.emod_nonneg (x * n) (show d ≠ 0 by omega)
  have h2 := Int.emod_lt_of_pos (x * n) (show 0 < d by omega)
  unfold Pl.dvr
  split <;> omega

theorem mul_one_bd {a b : Int} (ha : -1 ≤ a ∧ a ≤ 1) (hb : -1 ≤ b ∧ b ≤ 1) : -1 ≤ a * b ∧ a * b ≤ 1 := by
  have h1 : a = -1 ∨ a = 0 ∨ a = 1 := by omega
  rcases h1 with rfl | rfl | rfl <;> omega

set_option maxHeartbeats 400000 in
theorem down_any (x n d : Int) (w : World) (hx0 : -4398046511104 ≤ x) (hx : x ≤ 4398046511104) (hn0 : -4398046511104 ≤ n) (hn : n ≤ 4398046511104) (hd0 : -4398046511104 ≤ d) (hd : d ≤ 4398046511104) (hdz : d ≠ 0) :
    Calls Tryd.prog 33 #[.int .i64 x, .int .i64 n, .int .i64 d] w fun e w' => e = .returned (.int .i64 (dn x n d)) ∧ ∃ k, w.drewN k = w' := by
  unfold dn
  have mx := sg_mul x
  have mn := sg_mul n
  have md := sg_mul d
  have ax : (x.natAbs : Int) ≤ 4398046511104 := by omega
  have an : (n.natAbs : Int) ≤ 4398046511104 := by omega
  have ad : (d.natAbs : Int) ≤ 4398046511104 := by omega
  have ad1 : 1 ≤ (d.natAbs : Int) := by omega
  have bx := sg_bd x
  have bn := sg_bd n
  have bd := sg_bd d
  generalize x.natAbs = X at *
  generalize n.natAbs = N at *
  generalize d.natAbs = D at *
  have b1 := dvq_bd X N D (by omega) (by omega) (by omega)
  have b2 := dvr_bd X N D (by omega)
  have hdiv := fun w => divide_any X N D w (by omega) ax (by omega) an ad1 ad
  generalize Pl.dvq X N D = q at *
  generalize Pl.dvr X N D = r at *
  have HD := Lib.hid hdiv
  clear hdiv
  have bs1 := mul_one_bd bx bn
  generalize hs1 : sg x * sg n = s1 at *
  have bs2 := mul_one_bd bs1 bd
  generalize hs2 : s1 * sg d = s2 at *
  obtain ⟨c1, c2⟩ := b1
  obtain ⟨c3, c4⟩ := b2
  obtain ⟨c5, c6⟩ := bs1
  obtain ⟨c7, c8⟩ := bs2
  go_enter Tryd.func33, Tryd.ntmps33
  go_wp2_with (first
    | (go_at_call 50; refine (sign_any _ _).mono ?_; rintro e w' ⟨rfl, rfl⟩)
    | (go_at_call 49; refine (HD.out _).mono ?_; rintro e w' ⟨rfl, k, rfl⟩))
  all_goals
    go_ret
    exact ⟨by simp [*], _, rfl⟩

theorem sub_div {a d : Int} (hd : 0 < d) : (a - d) / d = a / d - 1 ∧ (a - d) % d = a % d := by
  have e : a - d = a + (-1) * d := by omega
  rw [e, Int.add_mul_ediv_right _ _ (by omega), Int.add_mul_emod_self_right]
  exact ⟨by omega, rfl⟩

end Go.Proofs.YtolnbblikfpnbaaDoor
