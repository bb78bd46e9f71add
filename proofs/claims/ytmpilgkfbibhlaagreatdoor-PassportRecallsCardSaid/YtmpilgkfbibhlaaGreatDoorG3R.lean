/-
 The rule of XInv for frames that are written out: what a region's operations have left in their slots; boxes that it makes.
-/
import Derived.Test.YtmpilgkfbibhlaaGreatDoorG2R
import Derived.OrdersIn
set_option linter.unusedSimpArgs false
set_option linter.unusedVariables false
namespace Go.Proofs.YtmpilgkfbibhlaaGreatDoor
open Go.RowKit
def updAll (a : Act) : List (Nat × Value) → Act
 | [] => a
 | (d, v) :: l => (updAll a l).put (some d) v
section
variable {P : Program} {ops : Array Oper} {Q : Exit → Act → World → Prop}
end
end Go.Proofs.YtmpilgkfbibhlaaGreatDoor
namespace Go.Proofs.YtmpilgkfbibhlaaGreatDoor
open Go.RowKit
section
variable {F : Fence} {n : Nat} {P : Program} {ops : Array Oper} {Q : Exit → Act → World → Prop}
def waits (ops : Array Oper) (i : Nat) : List Nat := ((ops[i]?).map fun o => (o.after.toList.filter (Region.binds .any)).map (·.on)).getD []
def ancs (ops : Array Oper) : Nat → Nat → List Nat
 | 0, _ => []
 | f + 1, i => waits ops i ++ (waits ops i).flatMap (ancs ops f)
def Shut (ops : Array Oper) (l : Array Bool) : Prop := ∀ i, l.getD i false = true → ∀ j ∈ waits ops i, l.getD j false = true
theorem Shut.anc {l : Array Bool} (h : Shut ops l) : ∀ f i, l.getD i false = true → ∀ j ∈ ancs ops f i, l.getD j false = true := by
 intro f
 induction f with
 | zero => intro i _ j hj; cases hj
 | succ f ih =>
  intro i hi j hj
  rcases List.mem_append.1 hj with hj | hj
  ·exact h i hi j hj
  ·obtain ⟨k, hk, hkj⟩ := List.mem_flatMap.1 hj
   exact ih k (h i hi k hk) j hkj
theorem waits_ok {l : Array Bool} {i : Nat} {o : Oper} (ho : ops[i]? = some o) (h : (o.after.all fun e => !Region.binds .any e || l.getD e.on false) = true) : ∀ j ∈ waits ops i, l.getD j false = true := by
 intro j hj
 unfold waits at hj
 rw [ho] at hj
 simp only [Option.map_some, Option.getD_some] at hj
 obtain ⟨e, he, rfl⟩ := List.mem_map.1 hj
 obtain ⟨he1, he2⟩ := List.mem_filter.1 he
 rw [Array.all_eq_true'] at h
 have := h e (by simpa using he1)
 rw [he2] at this
 simpa using this
theorem getD_tf {l : Array Bool} {i : Nat} (h : l.getD i true = false) : l.getD i false = false := by
 rw [Array.getD_eq_getD_getElem?] at h ⊢
 cases hx : l[i]? with
 | none => rw [hx] at h; simp at h
 | some x => rw [hx] at h; simpa using h
theorem getD_ft {l : Array Bool} {i : Nat} (hi : i < l.size) (h : l.getD i false = true) : l.getD i true = true := by
 rw [Array.getD_eq_getD_getElem?] at h ⊢
 rw [Array.getElem?_eq_getElem hi] at h ⊢
 simpa using h
theorem getD_tt {l : Array Bool} {i : Nat} (hi : i < l.size) (h : l.getD i true = true) : l.getD i false = true := by
 rw [Array.getD_eq_getD_getElem?] at h ⊢
 rw [Array.getElem?_eq_getElem hi] at h ⊢
 simpa using h
theorem getD_set1 {l : Array Bool} {i j : Nat} {b : Bool} (hi : i < l.size) : (l.setIfInBounds i true).getD j b = if i = j then true else l.getD j b := by
 rw [Array.getD_eq_getD_getElem?, Array.getD_eq_getD_getElem?, Array.getElem?_setIfInBounds]
 split
 ·simp [hi]
 ·rfl
theorem Shut.set {l : Array Bool} {i : Nat} (h : Shut ops l) (hi : i < l.size) (hw : ∀ j ∈ waits ops i, l.getD j false = true) : Shut ops (l.setIfInBounds i true) := by
 intro k hk j hj
 rw [getD_set1 hi] at hk ⊢
 split
 ·rfl
 ·by_cases e : i = k
  ·subst e; exact hw j hj
  ·rw [if_neg e] at hk
   exact h k hk j hj
theorem any_invIn (he : early ops = true) (I : Array Bool → Act → World → Prop) (hsz : ∀ l a w, I l a w → l.size = ops.size)
  (step : ∀ i o, ops[i]? = some o → ∀ l a w, I l a w → l.getD i true = false → (o.after.all fun e => !Region.binds .any e || l.getD e.on false) = true → wpOpIn F n P ops Q i (I (l.setIfInBounds i true)) a w)
  (done : ∀ l a w, I l a w → (∀ i, i < ops.size → l.getD i true = true) → Q .normal a w) :
  ∀ fuel l a w, I l a w → left l ≤ fuel → wpAnyIn F n P .any ops Q fuel l a w := by
 intro fuel
 induction fuel with
 | zero =>
  intro l a w hI hf
  have hr : Region.ready .any ops l = [] := by
   rw [List.eq_nil_iff_forall_not_mem]
   intro i hi
   obtain ⟨h1, h2, _⟩ := ready_iff hi
   have := left_set (by rw [hsz l a w hI]; exact h1) h2
   omega
  exact ⟨hr, done l a w hI (all_listed (hsz l a w hI) he hr)⟩
 | succ n ih =>
  intro l a w hI hf
  refine ⟨fun hr => done l a w hI (all_listed (hsz l a w hI) he hr), fun i hi => ?_⟩
  obtain ⟨h1, h2, h3⟩ := ready_iff hi
  have ho : ops[i]? = some ops[i] := Array.getElem?_eq_getElem h1
  have hl := left_set (by rw [hsz l a w hI]; exact h1) h2
  exact wpOpIn_mono (fun a' w' h' => ih _ a' w' h' (by omega)) (step i _ ho l a w hI h2 (h3 _ ho))
theorem regionIn_head {id : Nat} {a : Act} {w : World} (N : Nat) (hm : P.follows .mixedOrders = true) (he : early ops = true) (hs0 : ops.size = N + 2)
  (hA : ((List.range N).all fun j => (ancs ops 6 N).contains j) = true) (hB : (waits ops (N + 1)).contains N = true) (I : Array Bool → Act → Prop) (h0 : I (Array.replicate ops.size false) a)
  (step : ∀ i o, i < N → ops[i]? = some o → ∀ l a, I l a → l.size = ops.size → l.getD i true = false → (o.after.all fun e => !Region.binds .any e || l.getD e.on false) = true →
   wpOpIn F n P ops Q i (fun a' w' => w' = w.drew ∧ I (l.setIfInBounds i true) a') a w.drew)
  (tail : ∀ l a, I l a → l.size = ops.size → (∀ j, j < N → l.getD j true = true) → wpOpIn F n P ops Q N (fun a1 w1 => wpOpIn F n P ops Q (N + 1) (fun a2 w2 => Q .normal a2 w2) a1 w1) a w.drew) :
  (Code.region id ops true).wpIn F n P Q a w := by
 have hA' : ∀ j, j < N → j ∈ ancs ops 6 N := fun j hj => by simpa using List.all_eq_true.1 hA j (List.mem_range.2 hj)
 have hB' : N ∈ waits ops (N + 1) := by simpa using hB
 refine wpIn_region_any hm (any_invIn he (fun l a w' => l.size = ops.size ∧ Shut ops l ∧ ((l.getD N true = false ∧ l.getD (N + 1) true = false ∧ w' = w.drew ∧ I l a) ∨
  (l.getD N false = true ∧ l.getD (N + 1) true = false ∧ wpOpIn F n P ops Q (N + 1) (fun a2 w2 => Q .normal a2 w2) a w') ∨ (l.getD N false = true ∧ l.getD (N + 1) false = true ∧ Q .normal a w'))) (fun l a w h => h.1) ?_ ?_ ops.size _ _ _ ?_ (by rw [left_new]; exact Nat.le_refl _))
 ·rintro i o ho l a w' ⟨hs, hS, hJ⟩ hl hd
  have hio : i < ops.size := (Array.getElem?_eq_some_iff.1 ho).1
  have hil : i < l.size := by rw [hs]; exact hio
  have hw := waits_ok ho hd
  have hS2 := hS.set hil hw
  have hs2 : (l.setIfInBounds i true).size = ops.size := by simpa using hs
  have hi3 : i < N ∨ i = N ∨ i = N + 1 := by omega
  rcases hi3 with hi | rfl | rfl
  ·rcases hJ with ⟨j1, j2, rfl, j3⟩ | ⟨j1, _⟩ | ⟨j1, _⟩
   ·refine wpOpIn_mono ?_ (step i o hi ho l a j3 hs hl hd)
    rintro a' w'' ⟨rfl, h⟩
    refine ⟨hs2, hS2, Or.inl ⟨?_, ?_, rfl, h⟩⟩
    ·rw [getD_set1 hil, if_neg (by omega)]; exact j1
    ·rw [getD_set1 hil, if_neg (by omega)]; exact j2
   ·exact absurd (hS.anc 6 N j1 i (hA' i hi)) (by rw [getD_tf hl]; decide)
   ·exact absurd (hS.anc 6 N j1 i (hA' i hi)) (by rw [getD_tf hl]; decide)
  ·rcases hJ with ⟨j1, j2, rfl, j3⟩ | ⟨j1, _⟩ | ⟨j1, _⟩
   ·have hall : ∀ j, j < i → l.getD j true = true := by
     intro j hj
     have := hS2.anc 6 i (by rw [getD_set1 hil, if_pos rfl]) j (hA' j hj)
     rw [getD_set1 hil, if_neg (by omega)] at this
     exact getD_ft (by omega) this
    refine wpOpIn_mono ?_ (tail l a j3 hs hall)
    intro a' w'' h
    refine ⟨hs2, hS2, Or.inr (Or.inl ⟨?_, ?_, h⟩)⟩
    ·rw [getD_set1 hil, if_pos rfl]
    ·rw [getD_set1 hil, if_neg (by omega)]; exact j2
   ·exact absurd j1 (by rw [getD_tf hl]; decide)
   ·exact absurd j1 (by rw [getD_tf hl]; decide)
  ·have hN := hw N hB'
   rcases hJ with ⟨j1, _⟩ | ⟨j1, j2, j3⟩ | ⟨_, j1, _⟩
   ·exact absurd hN (by rw [getD_tf j1]; decide)
   ·refine wpOpIn_mono ?_ j3
    intro a' w'' h
    refine ⟨hs2, hS2, Or.inr (Or.inr ⟨?_, ?_, h⟩)⟩
    ·rw [getD_set1 hil, if_neg (by omega)]; exact j1
    ·rw [getD_set1 hil, if_pos rfl]
   ·exact absurd j1 (by rw [getD_tf hl]; decide)
 ·rintro l a w' ⟨hs, hS, hJ⟩ hall
  rcases hJ with ⟨j1, _⟩ | ⟨_, j1, _⟩ | ⟨_, _, j⟩
  ·rw [hall N (by omega)] at j1; cases j1
  ·rw [hall (N + 1) (by omega)] at j1; cases j1
  ·exact j
 ·refine ⟨by simp, fun i hi => ?_, Or.inl ⟨?_, ?_, rfl, h0⟩⟩
  ·rw [Array.getD_eq_getD_getElem?] at hi
   by_cases h : i < ops.size
   ·simp [h] at hi
   ·simp [h] at hi
  ·simp [Array.getD_eq_getD_getElem?, hs0]
  ·simp [Array.getD_eq_getD_getElem?, hs0]
theorem wpOpIn_plain {i : Nat} {o : Oper} {K : Act → World → Prop} {a : Act} {w : World} (hi : ops[i]? = some o) (hg : o.guard = none) (h : o.wpIn F n P a w K Q) : wpOpIn F n P ops Q i K a w := by
 unfold wpOpIn
 rw [hi]
 simp only [Region.wanted, hg, if_true]
 exact h
end
end Go.Proofs.YtmpilgkfbibhlaaGreatDoor
namespace Go.Proofs.YtmpilgkfbibhlaaGreatDoor
open Go.RowKit
section
variable {F : Fence} {n : Nat} {P : Program} {ops : Array Oper} {Q : Exit → Act → World → Prop}
def dstOf (ops : Array Oper) (i : Nat) : Option Nat := (ops[i]?).bind (·.dst)
def plainOp : Op → Bool
 | .select .. => false
 | .defer .. => false
 | _ => true
def headB (ops : Array Oper) (N : Nat) : Bool := (List.range N).all fun i => match ops[i]? with
 | none => false
 | some o => o.guard.isNone && plainOp o.op && o.dst.isSome && (o.op.operands.all fun x => match x with
   | .tmp t => (List.range N).all fun j => decide (dstOf ops j ≠ some t) || (waits ops i).contains j
   | _ => true) && (List.range N).all fun j => decide (j = i) || decide (dstOf ops j ≠ dstOf ops i)
structure HeadAt (ops : Array Oper) (N i : Nat) (o : Oper) : Prop where
 guard : o.guard = none
 sel : ∀ cs b, o.op ≠ .select cs b
 dfr : ∀ c, o.op ≠ .defer c
 dst : ∃ d, o.dst = some d
 looks : ∀ t, Operand.tmp t ∈ o.op.operands → ∀ j, j < N → dstOf ops j = some t → j ∈ waits ops i
 one : ∀ j, j < N → j ≠ i → dstOf ops j ≠ dstOf ops i
theorem head_at {N i : Nat} {o : Oper} (h : headB ops N = true) (hi : i < N) (ho : ops[i]? = some o) : HeadAt ops N i o := by
 have h1 := List.all_eq_true.1 h i (List.mem_range.2 hi)
 rw [ho] at h1
 simp only [Bool.and_eq_true] at h1
 obtain ⟨⟨⟨⟨h1, h2⟩, h3⟩, h4⟩, h5⟩ := h1
 refine ⟨by simpa using h1, ?_, ?_, Option.isSome_iff_exists.1 h3, ?_, ?_⟩
 ·intro cs b e; rw [e] at h2; simp [plainOp] at h2
 ·intro c e; rw [e] at h2; simp [plainOp] at h2
 ·intro t ht j hj hd
  rw [Array.all_eq_true'] at h4
  have h6 := h4 (.tmp t) ht
  have h7 := List.all_eq_true.1 h6 j (List.mem_range.2 hj)
  simp only [Bool.or_eq_true, decide_eq_true_eq] at h7
  rcases h7 with h7 | h7
  ·exact absurd hd h7
  ·simpa using h7
 ·intro j hj hne
  have h6 := List.all_eq_true.1 h5 j (List.mem_range.2 hj)
  simp only [Bool.or_eq_true, decide_eq_true_eq] at h6
  rcases h6 with h6 | h6
  ·exact absurd h6 hne
  ·exact h6
theorem eval_same {a b : Act} {x : Operand} (h : ∀ t, x = .tmp t → a.tmps[t]? = b.tmps[t]?) : a.eval x = b.eval x := by
 cases x with
 | tmp t => simp only [Act.eval, Array.getD_eq_getD_getElem?]; rw [h t rfl]
 | const v => rfl
 | global g => rfl
 | func f => rfl
def OpVal (P : Program) (AF : Act) (w : World) (o : Oper) : Prop := ∃ d v, o.dst = some d ∧ AF.tmps[d]? = some v ∧ (execOp AF.eval o).run P w = .ok (.value v) w ∧ o.about P w AF.eval = none
def AllVals (P : Program) (AF : Act) (w : World) : List Oper → Prop
 | [] => True
 | o :: l => OpVal P AF w o ∧ AllVals P AF w l
theorem AllVals.at_ {AF : Act} {w : World} : ∀ {l : List Oper}, AllVals P AF w l → ∀ (i : Nat) (o : Oper), l[i]? = some o → OpVal P AF w o := by
 intro l
 induction l with
 | nil => intro _ i o h; simp at h
 | cons x l ih =>
  intro h i o ho
  cases i with
  | zero => simp at ho; subst ho; exact h.1
  | succ i => exact ih h.2 i o (by simpa using ho)
theorem regionIn_final {id : Nat} {a : Act} {w : World} (N : Nat) (AF : Act) (hm : P.follows .mixedOrders = true) (he : early ops = true) (hs0 : ops.size = N + 2)
  (hA : ((List.range N).all fun j => (ancs ops 6 N).contains j) = true) (hB : (waits ops (N + 1)).contains N = true) (hH : headB ops N = true)
  (hdf : AF.defers = a.defers) (hsz : AF.tmps.size = a.tmps.size) (hsame : ∀ t, (∀ j, j < N → dstOf ops j ≠ some t) → AF.tmps[t]? = a.tmps[t]?)
  (hv : AllVals P AF w.drew (ops.toList.take N))
  (tail : wpOpIn F n P ops Q N (fun a1 w1 => wpOpIn F n P ops Q (N + 1) (fun a2 w2 => Q .normal a2 w2) a1 w1) AF w.drew) :
  (Code.region id ops true).wpIn F n P Q a w := by
 have hval : ∀ i o, i < N → ops[i]? = some o → OpVal P AF w.drew o := fun i o hi ho => hv.at_ i o (by
  rw [List.getElem?_take_of_lt hi, Array.getElem?_toList]; exact ho)
 refine regionIn_head N hm he hs0 hA hB (fun l x => x.defers = a.defers ∧ x.tmps.size = a.tmps.size ∧ (∀ j, j < N → l.getD j false = true → ∀ t, dstOf ops j = some t → x.tmps[t]? = AF.tmps[t]?) ∧
  (∀ t, (∀ j, j < N → dstOf ops j = some t → l.getD j false = false) → x.tmps[t]? = a.tmps[t]?)) ?_ ?_ ?_
 ·refine ⟨rfl, rfl, fun j hj h => ?_, fun _ _ => rfl⟩
  rw [Array.getD_eq_getD_getElem?] at h
  simp [hs0, show j < N + 2 by omega] at h
 ·rintro i o hi ho l x ⟨x1, x2, x3, x4⟩ hls hl hd
  have hH' := head_at hH hi ho
  obtain ⟨d, v, hd1, hd2, hd3, hd4⟩ := hval i o hi ho
  have hw := waits_ok ho hd
  have hdi : dstOf ops i = some d := by unfold dstOf; rw [ho]; exact hd1
  have hev : ∀ y ∈ o.op.operands, x.eval y = AF.eval y := by
   intro y hy
   refine eval_same fun t ht => ?_
   subst ht
   by_cases hc : ∃ j, j < N ∧ dstOf ops j = some t
   ·obtain ⟨j, hj, hjt⟩ := hc
    exact x3 j hj (hw j (hH'.looks t hy j hj hjt)) t hjt
   ·have hno : ∀ j, j < N → dstOf ops j ≠ some t := fun j hj e => hc ⟨j, hj, e⟩
    rw [x4 t (fun j hj e => absurd e (hno j hj)), hsame t hno]
  have hex := execOp_congr o hH'.sel hev
  have hab := about_congr (P := P) o w.drew hev
  unfold wpOpIn
  rw [ho]
  simp only [Region.wanted, hH'.guard, if_true]
  unfold Oper.wpIn
  rw [Oper.semAt_eq _ _ _ hH'.dfr, hex, hd3, hab, hd4]
  refine ⟨fun f hf => (by cases hf), ?_⟩
  rw [Oper.uponIn_value, hd1]
  have hil : i < l.size := by rw [hls]; exact (Array.getElem?_eq_some_iff.1 ho).1
  refine ⟨rfl, x1, by simpa [Act.put] using x2, ?_, ?_⟩
  ·intro j hj hjl t hjt
   simp only [Act.put]
   rw [Array.getElem?_setIfInBounds]
   by_cases e : d = t
   ·subst e
    have hlt : d < x.tmps.size := by rw [x2, ← hsz]; exact (Array.getElem?_eq_some_iff.1 hd2).1
    rw [if_pos rfl, if_pos hlt, hd2]
   ·rw [if_neg e]
    have hji : j ≠ i := fun c => by subst c; rw [hdi] at hjt; exact e (Option.some.inj hjt)
    rw [getD_set1 hil, if_neg (fun c => hji c.symm)] at hjl
    exact x3 j hj hjl t hjt
  ·intro t ht
   simp only [Act.put]
   rw [Array.getElem?_setIfInBounds]
   have hdt : d ≠ t := fun c => by
    subst c
    have := ht i hi hdi
    rw [getD_set1 hil, if_pos rfl] at this
    cases this
   rw [if_neg hdt]
   refine x4 t fun j hj hjt => ?_
   have := ht j hj hjt
   rw [getD_set1 hil] at this
   split at this
   ·cases this
   ·exact this
 ·rintro l x ⟨x1, x2, x3, x4⟩ hls hall
  have hx : x = AF := by
   obtain ⟨xt, xd⟩ := x
   obtain ⟨ft, fd⟩ := AF
   dsimp only at *
   have e1 : xt = ft := by
    refine Array.ext_getElem? fun t => ?_
    by_cases hc : ∃ j, j < N ∧ dstOf ops j = some t
    ·obtain ⟨j, hj, hjt⟩ := hc
     exact x3 j hj (getD_tt (by omega) (hall j hj)) t hjt
    ·have hno : ∀ j, j < N → dstOf ops j ≠ some t := fun j hj e => hc ⟨j, hj, e⟩
     rw [x4 t (fun j hj e => absurd e (hno j hj)), hsame t hno]
   rw [e1, x1, hdf]
  rw [hx]
  exact tail
theorem updAll_defers (a : Act) (l : List (Nat × Value)) : (updAll a l).defers = a.defers := by
 induction l with
 | nil => rfl
 | cons p l ih => exact ih
theorem updAll_size (a : Act) (l : List (Nat × Value)) : (updAll a l).tmps.size = a.tmps.size := by
 induction l with
 | nil => rfl
 | cons p l ih => simpa [updAll, Act.put] using ih
theorem updAll_same (a : Act) (l : List (Nat × Value)) (t : Nat) (h : ∀ p ∈ l, p.1 ≠ t) : (updAll a l).tmps[t]? = a.tmps[t]? := by
 induction l with
 | nil => rfl
 | cons p l ih =>
  have h1 := h p (List.mem_cons_self ..)
  simp only [updAll, Act.put]
  rw [Array.getElem?_setIfInBounds, if_neg h1]
  exact ih (fun q hq => h q (List.mem_cons_of_mem _ hq))
theorem regionIn_vals0 {id : Nat} {a : Act} {w : World} (N : Nat) (vals : List (Nat × Value)) (hm : P.follows .mixedOrders = true) (he : early ops = true) (hs0 : ops.size = N + 2)
  (hA : ((List.range N).all fun j => (ancs ops 6 N).contains j) = true) (hB : (waits ops (N + 1)).contains N = true) (hH : headB ops N = true)
  (hds : vals.map (fun p => some p.1) = (List.range N).map (dstOf ops)) (hv : AllVals P (updAll a vals) w.drew (ops.toList.take N))
  (tail : wpOpIn F n P ops Q N (fun a1 w1 => wpOpIn F n P ops Q (N + 1) (fun a2 w2 => Q .normal a2 w2) a1 w1) (updAll a vals) w.drew) :
  (Code.region id ops true).wpIn F n P Q a w :=
 regionIn_final N (updAll a vals) hm he hs0 hA hB hH (updAll_defers _ _) (updAll_size _ _) (fun t ht => updAll_same _ _ _ fun p hp e => by
  have h1 : some p.1 ∈ vals.map (fun p => some p.1) := List.mem_map.2 ⟨p, hp, rfl⟩
  rw [hds] at h1
  obtain ⟨j, hj, hjd⟩ := List.mem_map.1 h1
  exact ht j (List.mem_range.1 hj) (by rw [hjd, e])) hv tail
end
end Go.Proofs.YtmpilgkfbibhlaaGreatDoor
