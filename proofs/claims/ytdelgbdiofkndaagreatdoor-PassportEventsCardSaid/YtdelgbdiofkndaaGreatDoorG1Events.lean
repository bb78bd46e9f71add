/-
  Inside a fence: a region that draws its order, of operations that read, and one call, and one operation behind it: one walk of each operation, from whatever others have been carried out.
-/
import Derived.Test.YtdelgbdiofkndaaGreatDoorG0Events
import Derived.OrdersIn
import Derived.KernelRfl
import Derived.Test.YtdelgbdiofkndaaGreatDoorProg
import Derived.RangeFuncNested
import Derived.RangeFuncBound
import Derived.RangeFuncCalls
import Derived.RangeFuncLeaves
import Derived.Shelf.Abstract
import Derived.WalkKit
import Derived.OwnWalkIn
import Derived.TacticsInMore
import Derived.LoopNIn
import Derived.LoopIn
import Derived.Laws.BitsAllLaws
set_option linter.unusedSimpArgs false
set_option linter.unusedVariables false
namespace Go.Proofs.YtdelgbdiofkndaaGreatDoor
open Go.RowKit

section
variable {F : Fence} {n : Nat} {P : Program} {ops : Array Oper} {Q : Exit → Act → World → Prop}

/-- What an operation waits for. -/
def waits (ops : Array Oper) (i : Nat) : List Nat := ((ops[i]?).map fun o => (o.after.toList.filter (Region.binds .any)).map (·.on)).getD []
def ancs (ops : Array Oper) : Nat → Nat → List Nat
  | 0, _ => []
  | f + 1, i => waits ops i ++ (waits ops i).flatMap (ancs ops f)
def Shut (ops : Array Oper) (l : Array Bool) : Prop := ∀ i, l.getD i false = true → ∀ j ∈ waits ops i, l.getD j false = true
theorem Shut.anc {l : Array Bool} (h : Shut ops l) : ∀ f i, l.getD i false = true → ∀ j ∈ ancs ops f i, l.getD j false = true := by
  intro f
  induction f with
  | zero => intro i _ j hj; cases hj
  | succ f ih =>
    intro i hi j hj
    rcases List.mem_append.1 hj with hj | hj
    · exact h i hi j hj
    · obtain ⟨k, hk, hkj⟩ := List.mem_flatMap.1 hj
      exact ih k (h i hi k hk) j hkj
theorem waits_ok {l : Array Bool} {i : Nat} {o : Oper} (ho : ops[i]? = some o) (h : (o.after.all fun e => !Region.binds .any e || l.getD e.on false) = true) : ∀ j ∈ waits ops i, l.getD j false = true := by
  intro j hj
  unfold waits at hj
  rw [ho] at hj
  simp only [Option.map_some, Option.getD_some] at hj
  obtain ⟨e, he, rfl⟩ := List.mem_map.1 hj
  obtain ⟨he1, he2⟩ := List.mem_filter.1 he
  rw [Array.all_eq_true'] at h
  have := h e (by simpa using he1)
  rw [he2] at this
  simpa using this
theorem getD_tf {l : Array Bool} {i : Nat} (h : l.getD i true = false) : l.getD i false = false := by
  rw [Array.getD_eq_getD_getElem?] at h ⊢
  cases hx : l[i]? with
  | none => rw [hx] at h; simp at h
  | some x => rw [hx] at h; simpa using h
theorem getD_ft {l : Array Bool} {i : Nat} (hi : i < l.size) (h : l.getD i false = true) : l.getD i true = true := by
  rw [Array.getD_eq_getD_getElem?] at h ⊢
  rw [Array.getElem?_eq_getElem hi] at h ⊢
  simpa using h
theorem getD_tt {l : Array Bool} {i : Nat} (hi : i < l.size) (h : l.getD i true = true) : l.getD i false = true := by
  rw [Array.getD_eq_getD_getElem?] at h ⊢
  rw [Array.getElem?_eq_getElem hi] at h ⊢
  simpa using h
theorem getD_set1 {l : Array Bool} {i j : Nat} {b : Bool} (hi : i < l.size) : (l.setIfInBounds i true).getD j b = if i = j then true else l.getD j b := by
  rw [Array.getD_eq_getD_getElem?, Array.getD_eq_getD_getElem?, Array.getElem?_setIfInBounds]
  split
  · simp [hi]
  · rfl
theorem Shut.set {l : Array Bool} {i : Nat} (h : Shut ops l) (hi : i < l.size) (hw : ∀ j ∈ waits ops i, l.getD j false = true) : Shut ops (l.setIfInBounds i true) := by
  intro k hk j hj
  rw [getD_set1 hi] at hk ⊢
  split
  · rfl
  · by_cases e : i = k
    · subst e; exact hw j hj
    · rw [if_neg e] at hk
      exact h k hk j hj

theorem any_invIn (he : early ops = true) (I : Array Bool → Act → World → Prop) (hsz : ∀ l a w, I l a w → l.size = ops.size)
    (step : ∀ i o, ops[i]? = some o → ∀ l a w, I l a w → l.getD i true = false → (o.after.all fun e => !Region.binds .any e || l.getD e.on false) = true → wpOpIn F n P ops Q i (I (l.setIfInBounds i true)) a w)
    (done : ∀ l a w, I l a w → (∀ i, i < ops.size → l.getD i true = true) → Q .normal a w) :
    ∀ fuel l a w, I l a w → left l ≤ fuel → wpAnyIn F n P .any ops Q fuel l a w := by
  intro fuel
  induction fuel with
  | zero =>
    intro l a w hI hf
    have hr : Region.ready .any ops l = [] := by
      rw [List.eq_nil_iff_forall_not_mem]
      intro i hi
      obtain ⟨h1, h2, _⟩ := ready_iff hi
      have := left_set (by rw [hsz l a w hI]; exact h1) h2
      omega
    exact ⟨hr, done l a w hI (all_listed (hsz l a w hI) he hr)⟩
  | succ n ih =>
    intro l a w hI hf
    refine ⟨fun hr => done l a w hI (all_listed (hsz l a w hI) he hr), fun i hi => ?_⟩
    obtain ⟨h1, h2, h3⟩ := ready_iff hi
    have ho : ops[i]? = some ops[i] := Array.getElem?_eq_getElem h1
    have hl := left_set (by rw [hsz l a w hI]; exact h1) h2
    exact wpOpIn_mono (fun a' w' h' => ih _ a' w' h' (by omega)) (step i _ ho l a w hI h2 (h3 _ ho))

/-- THE RULE: N operations that read alone; the call; what stands behind it. -/
theorem regionIn_head {id : Nat} {a : Act} {w : World} (N : Nat) (hm : P.follows .mixedOrders = true) (he : early ops = true) (hs0 : ops.size = N + 2)
    (hA : ((List.range N).all fun j => (ancs ops 6 N).contains j) = true) (hB : (waits ops (N + 1)).contains N = true) (I : Array Bool → Act → Prop) (h0 : I (Array.replicate ops.size false) a)
    (step : ∀ i o, i < N → ops[i]? = some o → ∀ l a, I l a → l.size = ops.size → l.getD i true = false → (o.after.all fun e => !Region.binds .any e || l.getD e.on false) = true →
      wpOpIn F n P ops Q i (fun a' w' => w' = w.drew ∧ I (l.setIfInBounds i true) a') a w.drew)
    (tail : ∀ l a, I l a → l.size = ops.size → (∀ j, j < N → l.getD j true = true) → wpOpIn F n P ops Q N (fun a1 w1 => wpOpIn F n P ops Q (N + 1) (fun a2 w2 => Q .normal a2 w2) a1 w1) a w.drew) :
    (Code.region id ops true).wpIn F n P Q a w := by
  have hA' : ∀ j, j < N → j ∈ ancs ops 6 N := fun j hj => by simpa using List.all_eq_true.1 hA j (List.mem_range.2 hj)
  have hB' : N ∈ waits ops (N + 1) := by simpa using hB
  refine wpIn_region_any hm (any_invIn he (fun l a w' => l.size = ops.size ∧ Shut ops l ∧ ((l.getD N true = false ∧ l.getD (N + 1) true = false ∧ w' = w.drew ∧ I l a) ∨
    (l.getD N false = true ∧ l.getD (N + 1) true = false ∧ wpOpIn F n P ops Q (N + 1) (fun a2 w2 => Q .normal a2 w2) a w') ∨ (l.getD N false = true ∧ l.getD (N + 1) false = true ∧ Q .normal a w'))) (fun l a w h => h.1) ?_ ?_ ops.size _ _ _ ?_ (by rw [left_new]; exact Nat.le_refl _))
  · rintro i o ho l a w' ⟨hs, hS, hJ⟩ hl hd
    have hio : i < ops.size := (Array.getElem?_eq_some_iff.1 ho).1
    have hil : i < l.size := by rw [hs]; exact hio
    have hw := waits_ok ho hd
    have hS2 := hS.set hil hw
    have hs2 : (l.setIfInBounds i true).size = ops.size := by simpa using hs
    have hi3 : i < N ∨ i = N ∨ i = N + 1 := by omega
    rcases hi3 with hi | rfl | rfl
    · rcases hJ with ⟨j1, j2, rfl, j3⟩ | ⟨j1, _⟩ | ⟨j1, _⟩
      · refine wpOpIn_mono ?_ (step i o hi ho l a j3 hs hl hd)
        rintro a' w'' ⟨rfl, h⟩
        refine ⟨hs2, hS2, Or.inl ⟨?_, ?_, rfl, h⟩⟩
        · rw [getD_set1 hil, if_neg (by omega)]; exact j1
        · rw [getD_set1 hil, if_neg (by omega)]; exact j2
      · exact absurd (hS.anc 6 N j1 i (hA' i hi)) (by rw [getD_tf hl]; decide)
      · exact absurd (hS.anc 6 N j1 i (hA' i hi)) (by rw [getD_tf hl]; decide)
    · rcases hJ with ⟨j1, j2, rfl, j3⟩ | ⟨j1, _⟩ | ⟨j1, _⟩
      · have hall : ∀ j, j < i → l.getD j true = true := by
          intro j hj
          have := hS2.anc 6 i (by rw [getD_set1 hil, if_pos rfl]) j (hA' j hj)
          rw [getD_set1 hil, if_neg (by omega)] at this
          exact getD_ft (by omega) this
        refine wpOpIn_mono ?_ (tail l a j3 hs hall)
        intro a' w'' h
        refine ⟨hs2, hS2, Or.inr (Or.inl ⟨?_, ?_, h⟩)⟩
        · rw [getD_set1 hil, if_pos rfl]
        · rw [getD_set1 hil, if_neg (by omega)]; exact j2
      · exact absurd j1 (by rw [getD_tf hl]; decide)
      · exact absurd j1 (by rw [getD_tf hl]; decide)
    · have hN := hw N hB'
      rcases hJ with ⟨j1, _⟩ | ⟨j1, j2, j3⟩ | ⟨_, j1, _⟩
      · exact absurd hN (by rw [getD_tf j1]; decide)
      · refine wpOpIn_mono ?_ j3
        intro a' w'' h
        refine ⟨hs2, hS2, Or.inr (Or.inr ⟨?_, ?_, h⟩)⟩
        · rw [getD_set1 hil, if_neg (by omega)]; exact j1
        · rw [getD_set1 hil, if_pos rfl]
      · exact absurd j1 (by rw [getD_tf hl]; decide)
  · rintro l a w' ⟨hs, hS, hJ⟩ hall
    rcases hJ with ⟨j1, _⟩ | ⟨_, j1, _⟩ | ⟨_, _, j⟩
    · rw [hall N (by omega)] at j1; cases j1
    · rw [hall (N + 1) (by omega)] at j1; cases j1
    · exact j
  · refine ⟨by simp, fun i hi => ?_, Or.inl ⟨?_, ?_, rfl, h0⟩⟩
    · rw [Array.getD_eq_getD_getElem?] at hi
      by_cases h : i < ops.size
      · simp [h] at hi
      · simp [h] at hi
    · simp [Array.getD_eq_getD_getElem?, hs0]
    · simp [Array.getD_eq_getD_getElem?, hs0]

theorem wpOpIn_plain {i : Nat} {o : Oper} {K : Act → World → Prop} {a : Act} {w : World} (hi : ops[i]? = some o) (hg : o.guard = none) (h : o.wpIn F n P a w K Q) : wpOpIn F n P ops Q i K a w := by
  unfold wpOpIn
  rw [hi]
  simp only [Region.wanted, hg, if_true]
  exact h
theorem step_in {i : Nat} {K : Act → World → Prop} {a : Act} {w : World} {a' : Act} {w' : World} (h : ∀ K' : Act → World → Prop, K' a' w' → wpOpIn F n P ops Q i K' a w) (hk : K a' w') : wpOpIn F n P ops Q i K a w := h K hk
end

end Go.Proofs.YtdelgbdiofkndaaGreatDoor

/-
  Inside a fence: the same rule, where each reading operation is carried out in the frame that all of them leave.
-/
set_option linter.unusedSimpArgs false
set_option linter.unusedVariables false
namespace Go.Proofs.YtdelgbdiofkndaaGreatDoor
open Go.RowKit

section
variable {F : Fence} {n : Nat} {P : Program} {ops : Array Oper} {Q : Exit → Act → World → Prop}

def dstOf (ops : Array Oper) (i : Nat) : Option Nat := (ops[i]?).bind (·.dst)
def plainOp : Op → Bool
  | .select .. => false
  | .defer .. => false
  | _ => true
/-- What is asked of the N operations: no guard; each writes a slot of its own; what it looks at is written by operations that it waits for, or by none of them. -/
def headB (ops : Array Oper) (N : Nat) : Bool := (List.range N).all fun i => match ops[i]? with
  | none => false
  | some o => o.guard.isNone && plainOp o.op && o.dst.isSome && (o.op.operands.all fun x => match x with
      | .tmp t => (List.range N).all fun j => decide (dstOf ops j ≠ some t) || (waits ops i).contains j
      | _ => true) && (List.range N).all fun j => decide (j = i) || decide (dstOf ops j ≠ dstOf ops i)
structure HeadAt (ops : Array Oper) (N i : Nat) (o : Oper) : Prop where
  guard : o.guard = none
  sel : ∀ cs b, o.op ≠ .select cs b
  dfr : ∀ c, o.op ≠ .defer c
  dst : ∃ d, o.dst = some d
  looks : ∀ t, Operand.tmp t ∈ o.op.operands → ∀ j, j < N → dstOf ops j = some t → j ∈ waits ops i
  one : ∀ j, j < N → j ≠ i → dstOf ops j ≠ dstOf ops i
theorem head_at {N i : Nat} {o : Oper} (h : headB ops N = true) (hi : i < N) (ho : ops[i]? = some o) : HeadAt ops N i o := by
  have h1 := List.all_eq_true.1 h i (List.mem_range.2 hi)
  rw [ho] at h1
  simp only [Bool.and_eq_true] at h1
  obtain ⟨⟨⟨⟨h1, h2⟩, h3⟩, h4⟩, h5⟩ := h1
  refine ⟨by simpa using h1, ?_, ?_, Option.isSome_iff_exists.1 h3, ?_, ?_⟩
  · intro cs b e; rw [e] at h2; simp [plainOp] at h2
  · intro c e; rw [e] at h2; simp [plainOp] at h2
  · intro t ht j hj hd
    rw [Array.all_eq_true'] at h4
    have h6 := h4 (.tmp t) ht
    have h7 := List.all_eq_true.1 h6 j (List.mem_range.2 hj)
    simp only [Bool.or_eq_true, decide_eq_true_eq] at h7
    rcases h7 with h7 | h7
    · exact absurd hd h7
    · simpa using h7
  · intro j hj hne
    have h6 := List.all_eq_true.1 h5 j (List.mem_range.2 hj)
    simp only [Bool.or_eq_true, decide_eq_true_eq] at h6
    rcases h6 with h6 | h6
    · exact absurd h6 hne
    · exact h6

theorem eval_same {a b : Act} {x : Operand} (h : ∀ t, x = .tmp t → a.tmps[t]? = b.tmps[t]?) : a.eval x = b.eval x := by
  cases x with
  | tmp t => simp only [Act.eval, Array.getD_eq_getD_getElem?]; rw [h t rfl]
  | const v => rfl
  | global g => rfl
  | func f => rfl

/-- What each of the N operations does in the frame AF. -/
def OpVal (P : Program) (AF : Act) (w : World) (o : Oper) : Prop := ∃ d v, o.dst = some d ∧ AF.tmps[d]? = some v ∧ (execOp AF.eval o).run P w = .ok (.value v) w ∧ o.about P w AF.eval = none
def AllVals (P : Program) (AF : Act) (w : World) : List Oper → Prop
  | [] => True
  | o :: l => OpVal P AF w o ∧ AllVals P AF w l
theorem AllVals.at_ {AF : Act} {w : World} : ∀ {l : List Oper}, AllVals P AF w l → ∀ (i : Nat) (o : Oper), l[i]? = some o → OpVal P AF w o := by
  intro l
  induction l with
  | nil => intro _ i o h; simp at h
  | cons x l ih =>
    intro h i o ho
    cases i with
    | zero => simp at ho; subst ho; exact h.1
    | succ i => exact ih h.2 i o (by simpa using ho)

theorem regionIn_final {id : Nat} {a : Act} {w : World} (N : Nat) (AF : Act) (hm : P.follows .mixedOrders = true) (he : early ops = true) (hs0 : ops.size = N + 2)
    (hA : ((List.range N).all fun j => (ancs ops 6 N).contains j) = true) (hB : (waits ops (N + 1)).contains N = true) (hH : headB ops N = true)
    (hdf : AF.defers = a.defers) (hsz : AF.tmps.size = a.tmps.size) (hsame : ∀ t, (∀ j, j < N → dstOf ops j ≠ some t) → AF.tmps[t]? = a.tmps[t]?)
    (hv : AllVals P AF w.drew (ops.toList.take N))
    (tail : wpOpIn F n P ops Q N (fun a1 w1 => wpOpIn F n P ops Q (N + 1) (fun a2 w2 => Q .normal a2 w2) a1 w1) AF w.drew) :
    (Code.region id ops true).wpIn F n P Q a w := by
  have hval : ∀ i o, i < N → ops[i]? = some o → OpVal P AF w.drew o := fun i o hi ho => hv.at_ i o (by
    rw [List.getElem?_take_of_lt hi, Array.getElem?_toList]; exact ho)
  refine regionIn_head N hm he hs0 hA hB (fun l x => x.defers = a.defers ∧ x.tmps.size = a.tmps.size ∧ (∀ j, j < N → l.getD j false = true → ∀ t, dstOf ops j = some t → x.tmps[t]? = AF.tmps[t]?) ∧
    (∀ t, (∀ j, j < N → dstOf ops j = some t → l.getD j false = false) → x.tmps[t]? = a.tmps[t]?)) ?_ ?_ ?_
  · refine ⟨rfl, rfl, fun j hj h => ?_, fun _ _ => rfl⟩
    rw [Array.getD_eq_getD_getElem?] at h
    simp [hs0, show j < N + 2 by omega] at h
  · rintro i o hi ho l x ⟨x1, x2, x3, x4⟩ hls hl hd
    have hH' := head_at hH hi ho
    obtain ⟨d, v, hd1, hd2, hd3, hd4⟩ := hval i o hi ho
    have hw := waits_ok ho hd
    have hdi : dstOf ops i = some d := by unfold dstOf; rw [ho]; exact hd1
    have hev : ∀ y ∈ o.op.operands, x.eval y = AF.eval y := by
      intro y hy
      refine eval_same fun t ht => ?_
      subst ht
      by_cases hc : ∃ j, j < N ∧ dstOf ops j = some t
      · obtain ⟨j, hj, hjt⟩ := hc
        exact x3 j hj (hw j (hH'.looks t hy j hj hjt)) t hjt
      · have hno : ∀ j, j < N → dstOf ops j ≠ some t := fun j hj e => hc ⟨j, hj, e⟩
        rw [x4 t (fun j hj e => absurd e (hno j hj)), hsame t hno]
    have hex := execOp_congr o hH'.sel hev
    have hab := about_congr (P := P) o w.drew hev
    unfold wpOpIn
    rw [ho]
    simp only [Region.wanted, hH'.guard, if_true]
    unfold Oper.wpIn
    rw [Oper.semAt_eq _ _ _ hH'.dfr, hex, hd3, hab, hd4]
    refine ⟨fun f hf => (by cases hf), ?_⟩
    rw [Oper.uponIn_value, hd1]
    have hil : i < l.size := by rw [hls]; exact (Array.getElem?_eq_some_iff.1 ho).1
    refine ⟨rfl, x1, by simpa [Act.put] using x2, ?_, ?_⟩
    · intro j hj hjl t hjt
      simp only [Act.put]
      rw [Array.getElem?_setIfInBounds]
      by_cases e : d = t
      · subst e
        have hlt : d < x.tmps.size := by rw [x2, ← hsz]; exact (Array.getElem?_eq_some_iff.1 hd2).1
        rw [if_pos rfl, if_pos hlt, hd2]
      · rw [if_neg e]
        have hji : j ≠ i := fun c => by subst c; rw [hdi] at hjt; exact e (Option.some.inj hjt)
        rw [getD_set1 hil, if_neg (fun c => hji c.symm)] at hjl
        exact x3 j hj hjl t hjt
    · intro t ht
      simp only [Act.put]
      rw [Array.getElem?_setIfInBounds]
      have hdt : d ≠ t := fun c => by
        subst c
        have := ht i hi hdi
        rw [getD_set1 hil, if_pos rfl] at this
        cases this
      rw [if_neg hdt]
      refine x4 t fun j hj hjt => ?_
      have := ht j hj hjt
      rw [getD_set1 hil] at this
      split at this
      · cases this
      · exact this
  · rintro l x ⟨x1, x2, x3, x4⟩ hls hall
    have hx : x = AF := by
      obtain ⟨xt, xd⟩ := x
      obtain ⟨ft, fd⟩ := AF
      dsimp only at *
      have e1 : xt = ft := by
        refine Array.ext_getElem? fun t => ?_
        by_cases hc : ∃ j, j < N ∧ dstOf ops j = some t
        · obtain ⟨j, hj, hjt⟩ := hc
          exact x3 j hj (getD_tt (by omega) (hall j hj)) t hjt
        · have hno : ∀ j, j < N → dstOf ops j ≠ some t := fun j hj e => hc ⟨j, hj, e⟩
          rw [x4 t (fun j hj e => absurd e (hno j hj)), hsame t hno]
      rw [e1, x1, hdf]
    rw [hx]
    exact tail

theorem updAll_defers (a : Act) (l : List (Nat × Value)) : (updAll a l).defers = a.defers := by
  induction l with
  | nil => rfl
  | cons p l ih => exact ih
theorem updAll_size (a : Act) (l : List (Nat × Value)) : (updAll a l).tmps.size = a.tmps.size := by
  induction l with
  | nil => rfl
  | cons p l ih => simpa [updAll, Act.put] using ih
theorem updAll_same (a : Act) (l : List (Nat × Value)) (t : Nat) (h : ∀ p ∈ l, p.1 ≠ t) : (updAll a l).tmps[t]? = a.tmps[t]? := by
  induction l with
  | nil => rfl
  | cons p l ih =>
    have h1 := h p (List.mem_cons_self ..)
    simp only [updAll, Act.put]
    rw [Array.getElem?_setIfInBounds, if_neg h1]
    exact ih (fun q hq => h q (List.mem_cons_of_mem _ hq))
theorem regionIn_vals0 {id : Nat} {a : Act} {w : World} (N : Nat) (vals : List (Nat × Value)) (hm : P.follows .mixedOrders = true) (he : early ops = true) (hs0 : ops.size = N + 2)
    (hA : ((List.range N).all fun j => (ancs ops 6 N).contains j) = true) (hB : (waits ops (N + 1)).contains N = true) (hH : headB ops N = true)
    (hds : vals.map (fun p => some p.1) = (List.range N).map (dstOf ops)) (hv : AllVals P (updAll a vals) w.drew (ops.toList.take N))
    (tail : wpOpIn F n P ops Q N (fun a1 w1 => wpOpIn F n P ops Q (N + 1) (fun a2 w2 => Q .normal a2 w2) a1 w1) (updAll a vals) w.drew) :
    (Code.region id ops true).wpIn F n P Q a w :=
  regionIn_final N (updAll a vals) hm he hs0 hA hB hH (updAll_defers _ _) (updAll_size _ _) (fun t ht => updAll_same _ _ _ fun p hp e => by
    have h1 : some p.1 ∈ vals.map (fun p => some p.1) := List.mem_map.2 ⟨p, hp, rfl⟩
    rw [hds] at h1
    obtain ⟨j, hj, hjd⟩ := List.mem_map.1 h1
    exact ht j (List.mem_range.1 hj) (by rw [hjd, e])) hv tail
theorem regionIn_vals {id : Nat} {a : Act} {w : World} (N : Nat) (vals : List (Nat × Value)) (_ : F.round = none) (hm : P.follows .mixedOrders = true) (he : early ops = true) (hs0 : ops.size = N + 2)
    (hA : ((List.range N).all fun j => (ancs ops 6 N).contains j) = true) (hB : (waits ops (N + 1)).contains N = true) (hH : headB ops N = true)
    (hds : vals.map (fun p => some p.1) = (List.range N).map (dstOf ops)) (hv : AllVals P (updAll a vals) w.drew (ops.toList.take N))
    (tail : wpOpIn F n P ops Q N (fun a1 w1 => wpOpIn F n P ops Q (N + 1) (fun a2 w2 => Q .normal a2 w2) a1 w1) (updAll a vals) w.drew) :
    (Code.region id ops true).wpIn F n P Q a w := regionIn_vals0 N vals hm he hs0 hA hB hH hds hv tail
end

end Go.Proofs.YtdelgbdiofkndaaGreatDoor

/-
  Inside a fence: a drawn region whose operations all read alone.
-/
set_option linter.unusedSimpArgs false
set_option linter.unusedVariables false
namespace Go.Proofs.YtdelgbdiofkndaaGreatDoor
open Go.RowKit

section
variable {F : Fence} {n : Nat} {P : Program} {ops : Array Oper} {Q : Exit → Act → World → Prop}
theorem regionIn_all {id : Nat} {a : Act} {w : World} (vals : List (Nat × Value)) (hm : P.follows .mixedOrders = true) (he : early ops = true) (hH : headB ops ops.size = true)
    (hds : vals.map (fun p => some p.1) = (List.range ops.size).map (dstOf ops)) (hv : AllVals P (updAll a vals) w.drew ops.toList) (tail : Q .normal (updAll a vals) w.drew) :
    (Code.region id ops true).wpIn F n P Q a w := by
  have hsame : ∀ t, (∀ j, j < ops.size → dstOf ops j ≠ some t) → (updAll a vals).tmps[t]? = a.tmps[t]? := fun t ht => updAll_same _ _ _ fun p hp e => by
    have h1 : some p.1 ∈ vals.map (fun p => some p.1) := List.mem_map.2 ⟨p, hp, rfl⟩
    rw [hds] at h1
    obtain ⟨j, hj, hjd⟩ := List.mem_map.1 h1
    exact ht j (List.mem_range.1 hj) (by rw [hjd, e])
  have hval : ∀ i o, ops[i]? = some o → OpVal P (updAll a vals) w.drew o := fun i o ho => hv.at_ i o (by rw [Array.getElem?_toList]; exact ho)
  have hdf := updAll_defers a vals
  have hsz := updAll_size a vals
  generalize updAll a vals = AF at *
  refine wpIn_region_any hm (any_invIn he (fun l x w' => l.size = ops.size ∧ w' = w.drew ∧ x.defers = a.defers ∧ x.tmps.size = a.tmps.size ∧ (∀ j, j < ops.size → l.getD j false = true → ∀ t, dstOf ops j = some t → x.tmps[t]? = AF.tmps[t]?) ∧
    (∀ t, (∀ j, j < ops.size → dstOf ops j = some t → l.getD j false = false) → x.tmps[t]? = a.tmps[t]?)) (fun l a w h => h.1) ?_ ?_ ops.size _ _ _ ?_ (by rw [left_new]; exact Nat.le_refl _))
  · rintro i o ho l x w' ⟨hls, rfl, x1, x2, x3, x4⟩ hl hd
    have hi : i < ops.size := (Array.getElem?_eq_some_iff.1 ho).1
    have hH' := head_at hH hi ho
    obtain ⟨d, v, hd1, hd2, hd3, hd4⟩ := hval i o ho
    have hw := waits_ok ho hd
    have hdi : dstOf ops i = some d := by unfold dstOf; rw [ho]; exact hd1
    have hev : ∀ y ∈ o.op.operands, x.eval y = AF.eval y := by
      intro y hy
      refine eval_same fun t ht => ?_
      subst ht
      by_cases hc : ∃ j, j < ops.size ∧ dstOf ops j = some t
      · obtain ⟨j, hj, hjt⟩ := hc
        exact x3 j hj (hw j (hH'.looks t hy j hj hjt)) t hjt
      · have hno : ∀ j, j < ops.size → dstOf ops j ≠ some t := fun j hj e => hc ⟨j, hj, e⟩
        rw [x4 t (fun j hj e => absurd e (hno j hj)), hsame t hno]
    have hex := execOp_congr o hH'.sel hev
    have hab := about_congr (P := P) o w.drew hev
    unfold wpOpIn
    rw [ho]
    simp only [Region.wanted, hH'.guard, if_true]
    unfold Oper.wpIn
    rw [Oper.semAt_eq _ _ _ hH'.dfr, hex, hd3, hab, hd4]
    refine ⟨fun f hf => (by cases hf), ?_⟩
    rw [Oper.uponIn_value, hd1]
    have hil : i < l.size := by rw [hls]; exact hi
    refine ⟨by simpa using hls, rfl, x1, by simpa [Act.put] using x2, ?_, ?_⟩
    · intro j hj hjl t hjt
      simp only [Act.put]
      rw [Array.getElem?_setIfInBounds]
      by_cases e : d = t
      · subst e
        have hlt : d < x.tmps.size := by rw [x2, ← hsz]; exact (Array.getElem?_eq_some_iff.1 hd2).1
        rw [if_pos rfl, if_pos hlt, hd2]
      · rw [if_neg e]
        have hji : j ≠ i := fun c => by subst c; rw [hdi] at hjt; exact e (Option.some.inj hjt)
        rw [getD_set1 hil, if_neg (fun c => hji c.symm)] at hjl
        exact x3 j hj hjl t hjt
    · intro t ht
      simp only [Act.put]
      rw [Array.getElem?_setIfInBounds]
      have hdt : d ≠ t := fun c => by
        subst c
        have := ht i hi hdi
        rw [getD_set1 hil, if_pos rfl] at this
        cases this
      rw [if_neg hdt]
      refine x4 t fun j hj hjt => ?_
      have := ht j hj hjt
      rw [getD_set1 hil] at this
      split at this
      · cases this
      · exact this
  · rintro l x w' ⟨hls, rfl, x1, x2, x3, x4⟩ hall
    have hx : x = AF := by
      obtain ⟨xt, xd⟩ := x
      obtain ⟨ft, fd⟩ := AF
      dsimp only at *
      have e1 : xt = ft := by
        refine Array.ext_getElem? fun t => ?_
        by_cases hc : ∃ j, j < ops.size ∧ dstOf ops j = some t
        · obtain ⟨j, hj, hjt⟩ := hc
          exact x3 j hj (getD_tt (by omega) (hall j hj)) t hjt
        · have hno : ∀ j, j < ops.size → dstOf ops j ≠ some t := fun j hj e => hc ⟨j, hj, e⟩
          rw [x4 t (fun j hj e => absurd e (hno j hj)), hsame t hno]
      rw [e1, x1, hdf]
    rw [hx]
    exact tail
  · refine ⟨by simp, rfl, rfl, rfl, fun j hj h => ?_, fun _ _ => rfl⟩
    rw [Array.getD_eq_getD_getElem?] at h
    simp [hj] at h
end
end Go.Proofs.YtdelgbdiofkndaaGreatDoor

/-
  Sums of words at a point, modulo a prime: how many points two different messages can share.
-/
set_option linter.unusedSimpArgs false
set_option linter.unusedVariables false
namespace Go.Proofs.YtdelgbdiofkndaaGreatDoor
/-- Horner's rule, from the first word on. -/
def horner (p x : Nat) (ws : List Nat) : Nat := ws.foldl (fun s w => (s + w) * x % p) 0
/-- The same without the modulus, from the last word on. -/
def nv (x : Nat) : List Nat → Nat
  | [] => 0
  | c :: cs => (c + nv x cs) * x
theorem mod_step (p a c x : Nat) : (a % p + c) * x % p = (a + c) * x % p := by
  rw [Nat.mul_mod, Nat.mod_add_mod, ← Nat.mul_mod]
theorem horner_rev (p x : Nat) (rs : List Nat) : horner p x rs.reverse = nv x rs % p := by
  induction rs with
  | nil => simp [horner, nv]
  | cons c cs ih =>
    unfold horner at ih ⊢
    rw [List.reverse_cons, List.foldl_append, ih]
    simp only [List.foldl_cons, List.foldl_nil, nv]
    rw [mod_step, Nat.add_comm]
theorem horner_eq (p x : Nat) (ws : List Nat) : horner p x ws = nv x ws.reverse % p := by
  rw [← horner_rev, List.reverse_reverse]
/-- From the last word on, with the power carried along. -/
def powS (p x : Nat) : List Nat → Nat × Nat → Nat × Nat
  | [], s => s
  | c :: cs, s => powS p x cs ((s.1 + c % p * s.2) % p, s.2 * x % p)
def inn (x : Nat) : List Nat → Nat
  | [] => 0
  | c :: cs => c + nv x cs
theorem inn_nv (x : Nat) (cs : List Nat) : inn x cs * x = nv x cs := by cases cs <;> simp [inn, nv]
theorem pow_gen (p x : Nat) (rs : List Nat) : ∀ (o q : Nat), (powS p x rs (o, q)).1 % p = (o + q * inn x rs) % p := by
  induction rs with
  | nil => intro o q; simp [powS, inn]
  | cons c cs ih =>
    intro o q
    rw [powS, ih]
    show ((o + c % p * q) % p + q * x % p * inn x cs) % p = (o + q * (c + nv x cs)) % p
    rw [← inn_nv]
    generalize inn x cs = t
    rw [Nat.mod_add_mod]
    have h1 : (o + c % p * q + q * x % p * t) % p = (o + c * q + q * x * t) % p := by
      rw [Nat.add_mod, Nat.add_mod o, Nat.mod_mul_mod, ← Nat.add_mod o, Nat.mod_mul_mod, ← Nat.add_mod]
    rw [h1]
    congr 1
    rw [Nat.mul_add, Nat.mul_comm c q, Nat.mul_comm t x, ← Nat.mul_assoc, Nat.add_assoc]
theorem powS_lt {p : Nat} (hp : 0 < p) (x : Nat) : ∀ (rs : List Nat) (s : Nat × Nat), s.1 < p → (powS p x rs s).1 < p
  | [], _, h => h
  | _ :: cs, _, _ => powS_lt hp x cs _ (Nat.mod_lt _ hp)
theorem powS_eq {p : Nat} (hp : 0 < p) (x : Nat) (ws : List Nat) : (powS p x ws.reverse (0, x)).1 = horner p x ws := by
  have h := powS_lt hp x ws.reverse (0, x) hp
  rw [← Nat.mod_eq_of_lt h, pow_gen, horner_eq]
  rw [← inn_nv, Nat.zero_add, Nat.mul_comm]
theorem horner_lt {p : Nat} (hp : 0 < p) (x : Nat) (ws : List Nat) : horner p x ws < p := by rw [horner_eq]; exact Nat.mod_lt _ hp

/-! Roots. -/
def ev (x : Int) : List Int → Int
  | [] => 0
  | c :: cs => c + x * ev x cs
def quo (r : Int) : List Int → List Int
  | [] => []
  | [_] => []
  | _ :: c' :: cs => ev r (c' :: cs) :: quo r (c' :: cs)
theorem quo_len (r : Int) : ∀ cs : List Int, (quo r cs).length = cs.length - 1
  | [] => rfl
  | [_] => rfl
  | c :: c' :: cs => by simp [quo, quo_len r (c' :: cs)]
theorem ev_quo (x r : Int) : ∀ cs : List Int, ev x cs = (x - r) * ev x (quo r cs) + ev r cs
  | [] => by simp [ev, quo]
  | [c] => by simp [ev, quo]
  | c :: c' :: cs => by
    have h := ev_quo x r (c' :: cs)
    have e1 : ev x (c :: c' :: cs) = c + x * ev x (c' :: cs) := rfl
    have e2 : ev x (quo r (c :: c' :: cs)) = ev r (c' :: cs) + x * ev x (quo r (c' :: cs)) := rfl
    have e3 : ev r (c :: c' :: cs) = c + r * ev r (c' :: cs) := rfl
    rw [e1, e2, e3]
    generalize ev x (c' :: cs) = A at *
    generalize ev r (c' :: cs) = B at *
    generalize ev x (quo r (c' :: cs)) = D at *
    subst h
    grind
theorem zero_of {p r : Int} : ∀ {cs : List Int}, (∀ q ∈ quo r cs, p ∣ q) → p ∣ ev r cs → ∀ c ∈ cs, p ∣ c
  | [], _, _ => fun c h => by cases h
  | [d], _, h => fun c hc => by
    obtain rfl := List.mem_singleton.1 hc
    simpa [ev] using h
  | d :: c' :: cs, hq, h => fun c hc => by
    have h1 : p ∣ ev r (c' :: cs) := hq _ List.mem_cons_self
    have h2 := zero_of (r := r) (cs := c' :: cs) (fun q hh => hq q (List.mem_cons_of_mem _ hh)) h1
    rcases List.mem_cons.1 hc with rfl | hc
    · have e : ev r (c :: c' :: cs) = c + r * ev r (c' :: cs) := rfl
      rw [e] at h
      exact (Int.dvd_add_left (Int.dvd_mul_of_dvd_right h1)).1 h
    · exact h2 c hc
/-- As many roots as there are coefficients: all of them are 0. -/
theorem many_roots {p : Int} (hp : ∀ a b : Int, p ∣ a * b → p ∣ a ∨ p ∣ b) : ∀ (rs cs : List Int), rs.Pairwise (fun a b => ¬ p ∣ b - a) → (∀ r ∈ rs, p ∣ ev r cs) → cs.length ≤ rs.length → ∀ c ∈ cs, p ∣ c
  | [], cs, _, _, hl => fun c hc => by
    cases cs with
    | nil => cases hc
    | cons d cs => simp at hl
  | r :: rs, cs, hd, hr, hl => by
    have h0 := hr r List.mem_cons_self
    obtain ⟨d1, d2⟩ := List.pairwise_cons.1 hd
    refine zero_of (many_roots hp rs (quo r cs) d2 (fun s hs => ?_) (by rw [quo_len]; simp at hl; omega)) h0
    have h1 := hr s (List.mem_cons_of_mem _ hs)
    rw [ev_quo s r cs] at h1
    have h2 := (Int.dvd_add_left h0).1 h1
    rcases hp _ _ h2 with h3 | h3
    · exact absurd h3 (d1 s hs)
    · exact h3
/-- The points 1 .. n at which f holds, the last first; how many there are. -/
def rts (f : Nat → Bool) : Nat → List Int
  | 0 => []
  | n + 1 => if f (n + 1) = true then ((n + 1 : Nat) : Int) :: rts f n else rts f n
theorem rts_mem {f : Nat → Bool} {r : Int} : ∀ {n : Nat}, r ∈ rts f n → ∃ k : Nat, r = k ∧ 1 ≤ k ∧ k ≤ n ∧ f k = true
  | 0, h => by cases h
  | n + 1, h => by
    unfold rts at h
    split at h
    · rename_i hf
      rcases List.mem_cons.1 h with rfl | h
      · exact ⟨n + 1, rfl, by omega, Nat.le_refl _, hf⟩
      · obtain ⟨k, h1, h2, h3, h4⟩ := rts_mem h
        exact ⟨k, h1, h2, by omega, h4⟩
    · obtain ⟨k, h1, h2, h3, h4⟩ := rts_mem h
      exact ⟨k, h1, h2, by omega, h4⟩
theorem rts_apart {p : Int} {f : Nat → Bool} : ∀ {n : Nat}, (n : Int) < p → (rts f n).Pairwise fun a b => ¬ p ∣ b - a
  | 0, _ => List.Pairwise.nil
  | n + 1, h => by
    unfold rts
    split
    · refine List.pairwise_cons.2 ⟨fun s hs => ?_, rts_apart (by omega)⟩
      obtain ⟨k, rfl, h2, h3, h4⟩ := rts_mem hs
      rintro ⟨q, hq⟩
      have : q = 0 ∨ q ≤ -1 ∨ 1 ≤ q := by omega
      rcases this with rfl | hq' | hq'
      · omega
      · have := Int.mul_le_mul_of_nonneg_left hq' (show (0 : Int) ≤ p by omega)
        omega
      · have := Int.mul_le_mul_of_nonneg_left hq' (show (0 : Int) ≤ p by omega)
        omega
    · exact rts_apart (by omega)
theorem few_roots {p : Int} (hp : ∀ a b : Int, p ∣ a * b → p ∣ a ∨ p ∣ b) {f : Nat → Bool} {n : Nat} (hn : (n : Int) < p) {cs : List Int} (hf : ∀ k : Nat, 1 ≤ k → k ≤ n → f k = true → p ∣ ev k cs) (hc : ∃ c ∈ cs, ¬ p ∣ c) : (rts f n).length < cs.length := by
  by_cases h : cs.length ≤ (rts f n).length
  · obtain ⟨c, h1, h2⟩ := hc
    refine absurd (many_roots hp (rts f n) cs (rts_apart hn) (fun r hr => ?_) h c h1) h2
    obtain ⟨k, rfl, k1, k2, k3⟩ := rts_mem hr
    exact hf k k1 k2 k3
  · omega
/-- 257 is a prime. -/
theorem inv257 : ((List.range 257).all fun r => r == 0 || (r * r ^ 255) % 257 == 1) = true := by kernel_rfl
theorem inv_at (r : Nat) (h1 : r < 257) (h0 : r ≠ 0) : ∃ s, (r * s) % 257 = 1 := by
  have h2 := List.all_eq_true.1 inv257 r (List.mem_range.2 h1)
  rw [beq_false_of_ne h0, Bool.false_or] at h2
  exact ⟨r ^ 255, eq_of_beq h2⟩
theorem prime257 (a b : Int) (h : (257 : Int) ∣ a * b) : (257 : Int) ∣ a ∨ (257 : Int) ∣ b := by
  by_cases ha : (257 : Int) ∣ a
  · exact Or.inl ha
  · right
    have h0 : 0 ≤ a % 257 ∧ a % 257 < 257 := ⟨Int.emod_nonneg _ (by decide), Int.emod_lt_of_pos _ (by decide)⟩
    have h1 : a % 257 ≠ 0 := fun h => ha (Int.dvd_of_emod_eq_zero h)
    obtain ⟨r, hr⟩ := Int.eq_ofNat_of_zero_le h0.1
    obtain ⟨s, h3⟩ := inv_at r (by omega) (by omega)
    -- b = (r s) b - 257 ..
    have e1 : a = 257 * (a / 257) + r := by rw [← hr]; exact (Int.mul_ediv_add_emod a 257).symm
    have e2 : (r : Int) * s = 257 * ((r * s / 257 : Nat) : Int) + 1 := by
      rw [← Int.natCast_mul]
      generalize r * s = z at h3
      omega
    generalize ((r * s / 257 : Nat) : Int) = t at e2
    generalize a / 257 = u at e1
    obtain ⟨v, hv⟩ := h
    rw [e1] at hv
    refine ⟨s * v - b * t - s * u * b, ?_⟩
    clear h3 hr h0 h1 ha
    have e3 : b = (r * s) * b - 257 * t * b := by rw [e2]; grind
    have e4 : (r : Int) * b = 257 * v - 257 * u * b := by grind
    have e5 : (r * s) * b = s * ((r : Int) * b) := by grind
    rw [e5, e4] at e3
    clear e2 e1 hv e4 e5
    grind
/-! Differences. -/
def dif : List Int → List Int → List Int
  | [], ys => ys.map fun y => -y
  | x :: xs, [] => x :: xs
  | x :: xs, y :: ys => (x - y) :: dif xs ys
theorem ev_neg (x : Int) : ∀ ys : List Int, ev x (ys.map fun y => -y) = -ev x ys
  | [] => rfl
  | y :: ys => by
    show -y + x * ev x (ys.map fun y => -y) = -(y + x * ev x ys)
    rw [ev_neg x ys]; grind
theorem ev_dif (x : Int) : ∀ a b : List Int, ev x (dif a b) = ev x a - ev x b
  | [], ys => by rw [dif, ev_neg]; simp [ev]
  | c :: cs, [] => by simp [dif, ev]
  | c :: cs, d :: ds => by
    show c - d + x * ev x (dif cs ds) = (c + x * ev x cs) - (d + x * ev x ds)
    rw [ev_dif x cs ds]; grind
theorem dif_len : ∀ a b : List Int, (dif a b).length = max a.length b.length
  | [], ys => by simp [dif]
  | c :: cs, [] => by simp [dif]
  | c :: cs, d :: ds => by simp [dif, dif_len cs ds]
/-- Words of a message, from the last one on: bytes, and a 1 at the end. -/
def Wds (l : List Int) : Prop := (∀ c ∈ l, 0 ≤ c ∧ c ≤ 255) ∧ (l = [] ∨ l.getLast? = some 1)
theorem Wds.tail {c d : Int} {l : List Int} (h : Wds (c :: d :: l)) : Wds (d :: l) := by
  refine ⟨fun x hx => h.1 x (List.mem_cons_of_mem _ hx), Or.inr ?_⟩
  rcases h.2 with h | h
  · cases h
  · simpa using h
theorem Wds.one {c : Int} {l : List Int} (h : Wds (c :: l)) : (1 : Int) ∈ c :: l := by
  rcases h.2 with h | h
  · cases h
  · exact List.mem_of_getLast? h
theorem dif_same : ∀ {a b : List Int}, Wds a → Wds b → (∀ c ∈ dif a b, (257 : Int) ∣ c) → a = b
  | [], [], _, _, _ => rfl
  | [], y :: ys, _, hb, h => by
    exfalso
    have := h (-1) (List.mem_map.2 ⟨1, hb.one, rfl⟩)
    omega
  | x :: xs, [], ha, _, h => by
    exfalso
    have := h 1 ha.one
    omega
  | x :: xs, y :: ys, ha, hb, h => by
    have h1 := h (x - y) List.mem_cons_self
    have hx := ha.1 x List.mem_cons_self
    have hy := hb.1 y List.mem_cons_self
    have hxy : x = y := by omega
    have ht : ∀ c ∈ dif xs ys, (257 : Int) ∣ c := fun c hc => h c (List.mem_cons_of_mem _ hc)
    have : xs = ys := by
      cases xs with
      | nil => cases ys with
        | nil => rfl
        | cons z zs =>
          exfalso
          have := ht (-1) (List.mem_map.2 ⟨1, hb.tail.one, rfl⟩)
          omega
      | cons u us => cases ys with
        | nil =>
          exfalso
          have := ht 1 ha.tail.one
          omega
        | cons z zs => exact dif_same ha.tail hb.tail ht
    rw [hxy, this]
theorem nv_ev (x : Nat) : ∀ rs : List Nat, (nv x rs : Int) = x * ev x (rs.map Int.ofNat)
  | [] => by simp [nv, ev]
  | c :: cs => by
    have ih := nv_ev x cs
    show (((c + nv x cs) * x : Nat) : Int) = x * (Int.ofNat c + x * ev x (cs.map Int.ofNat))
    rw [← ih]
    push_cast
    rw [Int.mul_comm]
    rfl
end Go.Proofs.YtdelgbdiofkndaaGreatDoor

/-
  Words of a message, and its digest: the plain law.
-/
set_option linter.unusedSimpArgs false
set_option linter.unusedVariables false
namespace Go.Proofs.YtdelgbdiofkndaaGreatDoor
/-- Byte q of a message, a 1 behind it, and then zeros. -/
def bt (m : List Nat) (q : Nat) : Nat := if q < m.length then m.getD q 0 else if q = m.length then 1 else 0
def wdTo (b : Nat) (m : List Nat) (i : Nat) : Nat → Nat
  | 0 => 0
  | j + 1 => 256 * wdTo b m i j + bt m (i * b + j)
def wd (b : Nat) (m : List Nat) (i : Nat) : Nat := wdTo b m i b
/-- How many words. -/
def wn (b : Nat) (m : List Nat) : Nat := m.length / b + 2
/-- Word x: a 1 ahead of all. -/
def wx (b : Nat) (m : List Nat) : Nat → Nat
  | 0 => 1
  | i + 1 => wd b m i
def words (b : Nat) (m : List Nat) : List Nat := (List.range (wn b m)).map (wx b m)
/-- The digest. -/
def dig (p b x : Nat) (m : List Nat) : Nat := horner p x (words b m)
def Byt (m : List Nat) : Prop := ∀ k, m.getD k 0 < 256
theorem bt_lt {m : List Nat} (h : Byt m) (q : Nat) : bt m q < 256 := by
  unfold bt
  split
  · exact h q
  · split <;> omega
theorem wdTo_lt {m : List Nat} (h : Byt m) (b i : Nat) : ∀ j, wdTo b m i j < 256 ^ j
  | 0 => by simp [wdTo]
  | j + 1 => by
    have h1 := wdTo_lt h b i j
    have h2 := bt_lt h (i * b + j)
    rw [wdTo, Nat.pow_succ]
    omega
theorem wd_lt {m : List Nat} (h : Byt m) {b : Nat} (hb : b ≤ 3) (i : Nat) : wd b m i < 16777216 :=
  Nat.lt_of_lt_of_le (wdTo_lt h b i b) (Nat.pow_le_pow_right (n := 256) (by decide) hb)
theorem wdTo_small {m : List Nat} (h : Byt m) {b j : Nat} (hb : b ≤ 3) (hj : j < b) (i : Nat) : wdTo b m i j < 65536 :=
  Nat.lt_of_lt_of_le (wdTo_lt h b i j) (Nat.pow_le_pow_right (n := 256) (by decide) (by omega : j ≤ 2))
theorem wx_lt {m : List Nat} (h : Byt m) {b : Nat} (hb : b ≤ 3) : ∀ i, wx b m i < 16777216
  | 0 => by show 1 < 16777216; decide
  | i + 1 => wd_lt h hb i
theorem horner_snoc (p x : Nat) (ws : List Nat) (c : Nat) : horner p x (ws ++ [c]) = (horner p x ws + c) * x % p := by
  unfold horner
  rw [List.foldl_append]; rfl
theorem words_len (b : Nat) (m : List Nat) : (words b m).length = wn b m := by simp [words]
theorem words_one (m : List Nat) : words 1 m = 1 :: (m ++ [1]) := by
  apply List.ext_getElem?
  intro k
  unfold words wn
  rw [List.getElem?_map, Nat.div_one]
  by_cases hk : k < m.length + 2
  · rw [List.getElem?_range hk]
    cases k with
    | zero => rfl
    | succ k =>
      rw [List.getElem?_cons_succ]
      show some (wd 1 m k) = _
      have e : wd 1 m k = bt m k := by
        show 256 * 0 + bt m (k * 1 + 0) = _
        simp
      rw [e]
      unfold bt
      by_cases h : k < m.length
      · rw [if_pos h, List.getElem?_append_left h, List.getElem?_eq_getElem h, List.getD_eq_getElem?_getD, List.getElem?_eq_getElem h]; rfl
      · rw [if_neg h, List.getElem?_append_right (by omega)]
        by_cases h2 : k = m.length
        · rw [if_pos h2, h2]; simp
        · omega
  · rw [List.getElem?_eq_none (by simpa using hk), List.getElem?_eq_none (by simp; omega)]; rfl
/-- A message's words, from the last one on, as whole numbers. -/
def rw1 (m : List Nat) : List Int := (words 1 m).reverse.map Int.ofNat
theorem rw1_eq (m : List Nat) : rw1 m = 1 :: (m.reverse.map Int.ofNat ++ [1]) := by
  unfold rw1
  rw [words_one]
  simp
theorem rw1_len (m : List Nat) : (rw1 m).length = m.length + 2 := by rw [rw1_eq]; simp
theorem rw1_wds {m : List Nat} (h : Byt m) : Wds (rw1 m) := by
  refine ⟨fun c hc => ?_, Or.inr ?_⟩
  · rw [rw1_eq] at hc
    rcases List.mem_cons.1 hc with rfl | hc
    · omega
    · rcases List.mem_append.1 hc with hc | hc
      · obtain ⟨n, hn, rfl⟩ := List.mem_map.1 hc
        obtain ⟨k, hk⟩ := List.mem_iff_getElem?.1 (List.mem_reverse.1 hn)
        have := h k
        rw [List.getD_eq_getElem?_getD, hk] at this
        simp only [Option.getD_some] at this
        show 0 ≤ (n : Int) ∧ (n : Int) ≤ 255
        omega
      · obtain rfl := List.mem_singleton.1 hc
        omega
  · rw [rw1_eq, ← List.cons_append, List.getLast?_append]; rfl
theorem rw1_inj {a b : List Nat} (h : rw1 a = rw1 b) : a = b := by
  rw [rw1_eq, rw1_eq] at h
  have h1 := List.append_cancel_right (List.cons.inj h).2
  have h2 : a.reverse = b.reverse := by
    have := congrArg (List.map Int.toNat) h1
    simpa [Function.comp_def] using this
  simpa using h2
theorem dig_ev (x : Nat) (m : List Nat) : (dig 257 1 x m : Int) = ((x : Int) * ev x (rw1 m)) % 257 := by
  unfold dig rw1
  rw [horner_eq]
  rw [← nv_ev]
  omega
/-- Where two digests differ by a number modulo 257. -/
def hits (a b : List Nat) (d : Int) (x : Nat) : Bool := decide (((dig 257 1 x a : Int) - dig 257 1 x b + d) % 257 = 0)
theorem hits_ev {a b : List Nat} {d : Int} {x : Nat} (h : hits a b d x = true) : (257 : Int) ∣ ev x (d :: dif (rw1 a) (rw1 b)) := by
  have h1 := of_decide_eq_true h
  rw [dig_ev, dig_ev] at h1
  show (257 : Int) ∣ d + x * ev x (dif (rw1 a) (rw1 b))
  rw [ev_dif, Int.mul_sub]
  omega
/-- Two messages that are not the same meet at few points. -/
theorem hits_few {a b : List Nat} (ha : Byt a) (hb : Byt b) (hne : a ≠ b) (d : Int) : (rts (hits a b d) 256).length ≤ max a.length b.length + 2 := by
  have h := few_roots (p := 257) prime257 (f := hits a b d) (n := 256) (by decide) (cs := d :: dif (rw1 a) (rw1 b)) (fun k _ _ hk => hits_ev hk) (by
    refine Classical.byContradiction fun hc => hne (rw1_inj (dif_same (rw1_wds ha) (rw1_wds hb) fun c h1 => ?_))
    exact Classical.byContradiction fun h2 => hc ⟨c, List.mem_cons_of_mem _ h1, h2⟩)
  rw [List.length_cons, dif_len, rw1_len, rw1_len] at h
  omega
theorem rts_all {f : Nat → Bool} : ∀ {n : Nat}, (∀ k, 1 ≤ k → k ≤ n → f k = true) → (rts f n).length = n
  | 0, _ => rfl
  | n + 1, h => by
    unfold rts
    rw [if_pos (h (n + 1) (by omega) (Nat.le_refl _)), List.length_cons, rts_all fun k h1 h2 => h k h1 (by omega)]
theorem rts_none {f : Nat → Bool} : ∀ {n : Nat}, (∀ k, 1 ≤ k → k ≤ n → f k = false) → (rts f n).length = 0
  | 0, _ => rfl
  | n + 1, h => by
    unfold rts
    rw [if_neg (by rw [h (n + 1) (by omega) (Nat.le_refl _)]; decide), rts_none fun k h1 h2 => h k h1 (by omega)]
end Go.Proofs.YtdelgbdiofkndaaGreatDoor

/-
  The walk of words: the iterator over a message's words.
-/
set_option linter.unusedSimpArgs false
set_option linter.unusedVariables false
namespace Go.Proofs.YtdelgbdiofkndaaGreatDoor
open Go.RowKit Go.Shelf
attribute [local go_sem] Oper.semAt_some

/-- What lies below n₀ is as it was, but for block s. -/
def Keep (s n₀ : Nat) (A B : World) : Prop := ∀ k, k < n₀ → k ≠ s → B.heap[k]? = A.heap[k]?
theorem Keep.refl (s n₀ : Nat) (A : World) : Keep s n₀ A A := fun _ _ _ => rfl
theorem Keep.trans {s n₀ : Nat} {A B C : World} (h : Keep s n₀ A B) (k : Keep s n₀ B C) : Keep s n₀ A C := fun i hi hs => (k i hi hs).trans (h i hi hs)
theorem Keep.of_below {s n₀ : Nat} {A B : World} (h : Below n₀ A B) : Keep s n₀ A B := fun i hi _ => h.block i hi
theorem Keep.cell {s n₀ : Nat} {A B : World} (h : Keep s n₀ A B) {p : Addr} (hp : p.block < n₀ ∧ p.block ≠ s) : B.cell? p = A.cell? p := World.cell?_of_block (h _ hp.1 hp.2)
/-- A slice of bytes, in a block that is kept. -/
def BytAt (a : Option Addr) (m : List Nat) (s n₀ : Nat) (W : World) : Prop := m ≠ [] → ∃ b off, a = some ⟨b, off, none⟩ ∧ (b < n₀ ∧ b ≠ s) ∧ ∀ k, k < m.length → W.cell? ⟨b, off + k, none⟩ = some (.int .u8 (m.getD k 0))
theorem BytAt.at_ {a : Option Addr} {m : List Nat} {s n₀ : Nat} {W : World} (h : BytAt a m s n₀ W) {k : Nat} (hk : k < m.length) : ∃ b off, a = some ⟨b, off, none⟩ ∧ (b < n₀ ∧ b ≠ s) ∧ W.cell? ⟨b, off + k, none⟩ = some (.int .u8 (m.getD k 0)) := by
  obtain ⟨b, off, rfl, h1, h2⟩ := h (fun e => by rw [e] at hk; simp at hk)
  exact ⟨b, off, rfl, h1, h2 k hk⟩
theorem BytAt.keep {a : Option Addr} {m : List Nat} {s n₀ : Nat} {W w2 : World} (h : BytAt a m s n₀ W) (hb : Keep s n₀ W w2) : BytAt a m s n₀ w2 := fun hn => by
  obtain ⟨b, off, rfl, h1, h2⟩ := h hn
  exact ⟨b, off, rfl, h1, fun k hk => (hb.cell (p := ⟨b, off + k, none⟩) h1).trans (h2 k hk)⟩

theorem or_low (v c : Nat) (hc : c < 256) : v * 256 ||| c = 256 * v + c := by
  have := Nat.shiftLeft_add_eq_or_of_lt (i := 8) (b := c) (by omega) v
  rw [Nat.shiftLeft_eq] at this
  rw [Nat.mul_comm 256 v]
  exact this.symm
theorem or_u64 (v c : Nat) (hv : v < 65536) (hc : c < 256) : bits .or .u64 ((v : Int) * 256) (c : Int) = ((256 * v + c : Nat) : Int) := by
  rw [show ((v : Int) * 256) = ((v * 256 : Nat) : Int) by omega, u64_or_nat _ _ (by omega) (by omega), or_low v c hc]
theorem or_u64_one (v : Nat) (hv : v < 65536) : bits .or .u64 ((v : Int) * 256) 1 = ((256 * v + 1 : Nat) : Int) := or_u64 v 1 hv (by decide)
set_option maxRecDepth 100000 in
set_option maxHeartbeats 4000000 in
theorem words1_in (F : Fence) (n : Nat) (hf : F.fn 68) (hro : F.round = none) (hn : 1 ≤ n) (l Bm Bf bf off s n₀ cap b : Nat) (a : Option Addr) (m : List Nat) (hb1 : 1 ≤ b) (hb3 : b ≤ 3) (hB : Byt m) (hlen : m.length ≤ 2000)
    (hBm : Bm < n₀ ∧ Bm ≠ s) (hBf : Bf < n₀ ∧ Bf ≠ s) (hbf : bf < n₀ ∧ bf ≠ s) (J Jx : List Nat → World → Prop)
    (hY : ∀ pre x W, J pre W → pre.length < wn b m → YieldAt F (n - 1) Tryz.prog l #[.int .u64 (wx b m x)] W fun e W' => (e = .returned (.bool true) ∧ J (pre ++ [x]) W' ∧ Keep s n₀ W W') ∨ (e = .returned (.bool false) ∧ Jx (pre ++ [x]) W')) (hJd : ∀ pre W, J pre W → J pre W.drew)
    (W : World) (hM : W.cell? ⟨Bm, 0, none⟩ = some (.slice a m.length cap)) (hF : W.cell? ⟨Bf, 0, none⟩ = some (.pointer (some ⟨bf, off, none⟩))) (hP : W.cell? ⟨bf, off + 1, none⟩ = some (.int .i64 b))
    (hA : BytAt a m s n₀ W) (h0 : J [] W) :
    CallsIn F n Tryz.prog 68 #[.func (.yield l) #[] #[], .pointer (some ⟨Bm, 0, none⟩), .pointer (some ⟨Bf, 0, none⟩)] W fun e W' => (∃ v, e = .returned v) ∧
      ((∃ zs, zs = List.range (wn b m) ∧ J zs W') ∨ (∃ pre, (∃ k, k ≤ wn b m ∧ pre = List.range k) ∧ Jx pre W')) := by
  refine callsIn_of_wp Tryz.func68 rfl hf ?_ hro
  simp only [Tryz.ntmps68, List.size_toArray, List.length_cons, List.length_nil, Nat.reduceAdd, Nat.reduceSub, Array.replicate_succ, Array.replicate_zero, List.push_toArray, List.append_toArray, List.nil_append, List.cons_append]
  obtain ⟨fn, tmps, assign, body, hy, hR⟩ := hY [] 0 W h0 (by unfold wn; simp)
  have hwx : ((wx b m 0 : Nat) : Int) = 1 := rfl
  rw [hwx] at hy
  gi_wp2
  refine hR.mono ?_
  rintro e W3 (⟨rfl, hJ3, hk3⟩ | ⟨rfl, hJx3⟩)
  · gi_wp2
    replace hM := (hk3.cell (p := ⟨Bm, 0, none⟩) hBm).trans hM
    replace hF := (hk3.cell (p := ⟨Bf, 0, none⟩) hBf).trans hF
    replace hP := (hk3.cell (p := ⟨bf, off + 1, none⟩) hbf).trans hP
    replace hA := hA.keep hk3
    clear hR hy h0
    gi_loopw [4, 5, 6] (fun i _ _ wr => ∃ k : Nat, k ≤ m.length / b + 1 ∧ i = .int .i64 k ∧ J (List.range (k + 1)) wr ∧ Keep s n₀ W3 wr) (fun i _ _ _ => m.length / b + 1 - (intOf i).toNat)
    case atStart => exact ⟨0, Nat.zero_le _, rfl, hJ3, Keep.refl _ _ _⟩
    case round =>
      obtain ⟨k, hk, rfl, hJs, hnx⟩ := hrel
      have c0 := (hnx.cell (p := ⟨Bm, 0, none⟩) hBm).trans hM
      have c1 := (hnx.cell (p := ⟨Bf, 0, none⟩) hBf).trans hF
      have c2 := (hnx.cell (p := ⟨bf, off + 1, none⟩) hbf).trans hP
      have cA := hA.keep hnx
      clear hM hF hP hA hwx
      have hdiv : ((m.length / b : Nat) : Int) = (m.length : Int) / b := rfl
      have hdl : m.length / b ≤ 2000 := Nat.le_trans (Nat.div_le_self _ _) hlen
      have hwl : wn b m = m.length / b + 2 := rfl
      gi_wp2
      refine regionIn_all [(10, (.int .i64 k)), (11, (.slice a m.length cap)), (12, (.int .i64 m.length)), (13, (.pointer (some ⟨bf, off, none⟩))), (14, (.pointer (some ⟨bf, off, none⟩))), (15, (.pointer (some ⟨bf, off + 1, none⟩))), (16, (.int .i64 b)), (17, (.int .i64 (m.length / b : Nat))), (18, (.bool (decide ((k : Int) ≤ (m.length / b : Nat)))))] (by kernel_rfl) (by kernel_rfl) (by kernel_rfl) (by rfl) ?vals ?tail
      case vals =>
        simp only [updAll, Act.put, List.setIfInBounds_toArray, List.set_cons_zero, List.set_cons_succ, AllVals]
        refine ⟨?_, ?_, ?_, ?_, ?_, ?_, ?_, ?_, ?_, trivial⟩
        all_goals (refine ⟨_, _, rfl, rfl, ?_, ?_⟩ <;> go_simp)
        rw [if_neg (by omega), Go.IntWalk.i64_in _ ⟨by generalize m.length / b = q at *; omega, by generalize m.length / b = q at *; omega⟩]
      case tail =>
        simp only [updAll, Act.put, List.setIfInBounds_toArray, List.set_cons_zero, List.set_cons_succ]
        clear hdiv
        generalize hq : m.length / b = q at *
        by_cases hlt : k ≤ q
        · have hlt' : (k : Int) ≤ (q : Int) := by omega
          have hw2 : wdTo b m k b = wx b m (k + 1) := rfl
          have hnx2 : ∀ j, wdTo b m k (j + 1) = 256 * wdTo b m k j + bt m (k * b + j) := fun j => rfl
          have hkb : k * b ≤ 6000 := Nat.le_trans (Nat.mul_le_mul (show k ≤ 2000 by omega) hb3) (by decide)
          have e1 : (k : Int) * (b : Int) = ((k * b : Nat) : Int) := by push_cast; rfl
          have e2 : ((k : Int) + 1) * (b : Int) = ((k * b : Nat) : Int) + b := by rw [Int.add_mul, e1, Int.one_mul]
          generalize k * b = t at *
          gi_wp2
          gi_loopw [5, 6] (fun v p w2 => ∃ j : Nat, j ≤ b ∧ v = .int .u64 (wdTo b m k j) ∧ p = .int .i64 (t + j) ∧ w2 = wr.drew) (fun _ p _ => t + b - (intOf p).toNat)
          case atStart => exact ⟨0, Nat.zero_le _, rfl, by first | rfl | simp, rfl⟩
          case round =>
            obtain ⟨j, hj, rfl, rfl, rfl⟩ := hrel
            by_cases hjb : j < b
            · have hs := wdTo_small hB hb3 hjb k
              have hn2 := hnx2 j
              have hbl := bt_lt hB (t + j)
              rcases Nat.lt_trichotomy (t + j) m.length with h1 | h1 | h1
              · obtain ⟨bm, om, rfl, hbm, hcm⟩ := cA.at_ h1
                have hbt : bt m (t + j) = m.getD (t + j) 0 := by unfold bt; rw [if_pos h1]
                rw [hbt] at hn2 hbl
                have hor := or_u64 _ _ hs hbl
                have e3 : ((t : Int) + j) = ((t + j : Nat) : Int) := by push_cast; rfl
                have e4 : ((t + j : Nat) : Int) + 1 = (t : Int) + ((j + 1 : Nat) : Int) := by push_cast; omega
                rw [e3]
                rw [← hn2] at hor
                generalize m.getD (t + j) 0 = c at *
                generalize hv : wdTo b m k j = v at *
                generalize hv2 : wdTo b m k (j + 1) = v2 at *
                generalize t + j = r at *
                gi_wp2
                go_roundw
                case rel => exact ⟨j + 1, by omega, congrArg _ (by omega), congrArg _ (by omega), by first | trivial | rfl⟩
                case measure => simp [intOf]; omega
              · have hbt : bt m (t + j) = 1 := by unfold bt; rw [if_neg (by omega), if_pos h1]
                rw [hbt] at hn2
                have hor := or_u64_one _ hs
                rw [← hn2] at hor
                have h1' : (t : Int) + j = m.length := by omega
                have e4 : (m.length : Int) + 1 = (t : Int) + ((j + 1 : Nat) : Int) := by push_cast; omega
                generalize hv : wdTo b m k j = v at *
                generalize hv2 : wdTo b m k (j + 1) = v2 at *
                rw [h1']
                generalize m.length = r at *
                gi_wp2
                go_roundw
                case rel => exact ⟨j + 1, by omega, congrArg _ (by omega), congrArg _ (by omega), by first | trivial | rfl⟩
                case measure => simp [intOf]; omega
              · have hbt : bt m (t + j) = 0 := by unfold bt; rw [if_neg (by omega), if_neg (by omega)]
                rw [hbt] at hn2
                have hor : ((256 * wdTo b m k j + 0 : Nat) : Int) = (wdTo b m k j : Int) * 256 := by push_cast; omega
                rw [← hn2] at hor
                have h1' : (m.length : Int) < (t : Int) + j := by omega
                generalize hv : wdTo b m k j = v at *
                generalize hv2 : wdTo b m k (j + 1) = v2 at *
                gi_wp2
                go_roundw
                case rel => exact ⟨j + 1, by omega, congrArg _ (by omega), congrArg _ (by omega), by first | trivial | rfl⟩
                case measure => simp [intOf]; omega
            · obtain rfl : j = b := by omega
              obtain ⟨fn, tmps, assign, body, hy, hR⟩ := hY (List.range (k + 1)) (k + 1) wr.drew (hJd _ _ hJs) (by rw [List.length_range]; omega)
              rw [hw2]
              gi_wp2
              refine hR.mono ?_
              rintro e W4 (⟨rfl, hJ4, hk4⟩ | ⟨rfl, hJx4⟩)
              · gi_wp2
                go_roundw
                case rel => exact ⟨k + 1, by omega, by go_num, by rw [List.range_succ]; exact hJ4, hnx.trans ((show Keep s n₀ wr wr.drew from fun _ _ _ => rfl).trans hk4)⟩
                case measure => (simp [intOf]; omega)
              · gi_wp2
                refine bodyPost_ret (results_none rfl _ _ _) rfl ?_
                exact ⟨⟨_, rfl⟩, .inr ⟨_, ⟨k + 2, by omega, List.range_succ.symm⟩, hJx4⟩⟩
        · have hlt' : (q : Int) < (k : Int) := by omega
          gi_wp2
          obtain rfl : k = q + 1 := by omega
          go_end0
          exact ⟨⟨_, rfl⟩, .inl ⟨_, rfl, by rw [hwl]; exact hJd _ _ hJs⟩⟩
  · gi_wp2
    refine bodyPost_ret (results_none rfl _ _ _) rfl ?_
    exact ⟨⟨_, rfl⟩, .inr ⟨_, ⟨1, by unfold wn; generalize m.length / b = q; omega, rfl⟩, hJx3⟩⟩

theorem words_stops (F : Fence) (n : Nat) (hf : F.fn 68) (hro : F.round = none) (hn : 1 ≤ n) (Bm Bf bf off s n₀ cap b : Nat) (a : Option Addr) (m : List Nat) (hb1 : 1 ≤ b) (hb3 : b ≤ 3) (hB : Byt m) (hlen : m.length ≤ 2000)
    (hBm : Bm < n₀ ∧ Bm ≠ s) (hBf : Bf < n₀ ∧ Bf ≠ s) (hbf : bf < n₀ ∧ bf ≠ s) (w : World) (hnw : n₀ ≤ w.heap.size)
    (hM : w.cell? ⟨Bm, 0, none⟩ = some (.slice a m.length cap)) (hF : w.cell? ⟨Bf, 0, none⟩ = some (.pointer (some ⟨bf, off, none⟩))) (hP : w.cell? ⟨bf, off + 1, none⟩ = some (.int .i64 b)) (hA : BytAt a m s n₀ w) :
    SeqStopsK F n Tryz.prog 68 #[.pointer (some ⟨Bm, 0, none⟩), .pointer (some ⟨Bf, 0, none⟩)] (fun x => #[.int .u64 (wx b m x)]) (Keep s n₀) (fun l => l = List.range (wn b m)) (fun pre => ∃ k, k ≤ wn b m ∧ pre = List.range k) (wn b m) w := fun l J Jx W hW hJ _ hYY h0 => by
  have hW0 : Keep s n₀ w W := Keep.of_below (hW.mono hnw)
  exact words1_in F n hf hro hn l Bm Bf bf off s n₀ cap b a m hb1 hb3 hB hlen hBm hBf hbf J Jx hYY (fun pre W1 h => hJ pre W1 W1.drew none h ⟨rfl, rfl, rfl, Nat.le_refl _, fun _ _ _ => rfl⟩ (fun r e => by cases e)) W
    ((hW0.cell (p := ⟨Bm, 0, none⟩) hBm).trans hM) ((hW0.cell (p := ⟨Bf, 0, none⟩) hBf).trans hF) ((hW0.cell (p := ⟨bf, off + 1, none⟩) hbf).trans hP) (hA.keep hW0) h0

/-- words: both are boxed, and the iterator holds on to the boxes. -/
theorem words_in (F : Fence) (n : Nat) (hf : F.fn 50) (hro : F.round = none) (f : Option Addr) (a : Option Addr) (len cap : Nat) (w : World) :
    CallsIn F n Tryz.prog 50 #[.pointer f, .slice a len cap] w fun e w' => e = .returned (.func (.func 68) #[] #[.pointer (some ⟨w.heap.size + 1, 0, none⟩), .pointer (some ⟨w.heap.size, 0, none⟩)]) ∧
      w' = (w.alloc (.cells #[.pointer f] 65)).alloc (.cells #[.slice a len cap] 26) := by
  refine callsIn_of_wp Tryz.func50 rfl hf ?_ hro
  simp only [Tryz.ntmps50, List.size_toArray, List.length_cons, List.length_nil, Nat.reduceAdd, Nat.reduceSub, Array.replicate_succ, Array.replicate_zero, List.push_toArray, List.append_toArray, List.nil_append, List.cons_append]
  gi_wp2
  go_ret
  exact ⟨by simp, rfl⟩
end Go.Proofs.YtdelgbdiofkndaaGreatDoor
