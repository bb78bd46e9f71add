/-
  Inside a fence: the same rule, where each reading operation is carried out in the frame that all of them leave.
-/
import Derived.Test.YtkldlmbccdfjdaaG2Boxes
import Derived.Test.YtkldlmbccdfjdaaG1Boxes
import Derived.RangeFuncNested
import Derived.RangeFuncBound
import Derived.RangeFuncCalls
import Derived.RangeFuncLeaves
import Derived.Shelf.Abstract
import Derived.WalkKit
import Derived.OwnWalkIn
import Derived.TacticsInMore
import Derived.LoopNIn
import Derived.LoopIn
import Derived.Laws.AppendOwnNone
import Derived.Lib.LazyBuf
set_option linter.unusedSimpArgs false
set_option linter.unusedVariables false
namespace Go.Proofs.Ytkldlmbccdfjdaa
open Go.RowKit

section
variable {F : Fence} {n : Nat} {P : Program} {ops : Array Oper} {Q : Exit → Act → World → Prop}

def dstOf (ops : Array Oper) (i : Nat) : Option Nat := (ops[i]?).bind (·.dst)
def plainOp : Op → Bool
  | .select .. => false
  | .defer .. => false
  | _ => true
/-- What is asked of the N operations: no guard; each writes a slot of its own; what it looks at is written by operations that it waits for, or by none of them. -/
def headB (ops : Array Oper) (N : Nat) : Bool := (List.range N).all fun i => match ops[i]? with
  | none => false
  | some o => o.guard.isNone && plainOp o.op && o.dst.isSome && (o.op.operands.all fun x => match x with
      | .tmp t => (List.range N).all fun j => decide (dstOf ops j ≠ some t) || (waits ops i).contains j
      | _ => true) && (List.range N).all fun j => decide (j = i) || decide (dstOf ops j ≠ dstOf ops i)
structure HeadAt (ops : Array Oper) (N i : Nat) (o : Oper) : Prop where
  guard : o.guard = none
  sel : ∀ cs b, o.op ≠ .select cs b
  dfr : ∀ c, o.op ≠ .defer c
  dst : ∃ d, o.dst = some d
  looks : ∀ t, Operand.tmp t ∈ o.op.operands → ∀ j, j < N → dstOf ops j = some t → j ∈ waits ops i
  one : ∀ j, j < N → j ≠ i → dstOf ops j ≠ dstOf ops i
theorem head_at {N i : Nat} {o : Oper} (h : headB ops N = true) (hi : i < N) (ho : ops[i]? = some o) : HeadAt ops N i o := by
  have h1 := List.all_eq_true.1 h i (List.mem_range.2 hi)
  rw [ho] at h1
  simp only [Bool.and_eq_true] at h1
  obtain ⟨⟨⟨⟨h1, h2⟩, h3⟩, h4⟩, h5⟩ := h1
  refine ⟨by simpa using h1, ?_, ?_, Option.isSome_iff_exists.1 h3, ?_, ?_⟩
  · intro cs b e; rw [e] at h2; simp [plainOp] at h2
  · intro c e; rw [e] at h2; simp [plainOp] at h2
  · intro t ht j hj hd
    rw [Array.all_eq_true'] at h4
    have h6 := h4 (.tmp t) ht
    have h7 := List.all_eq_true.1 h6 j (List.mem_range.2 hj)
    simp only [Bool.or_eq_true, decide_eq_true_eq] at h7
    rcases h7 with h7 | h7
    · exact absurd hd h7
    · simpa using h7
  · intro j hj hne
    have h6 := List.all_eq_true.1 h5 j (List.mem_range.2 hj)
    simp only [Bool.or_eq_true, decide_eq_true_eq] at h6
    rcases h6 with h6 | h6
    · exact absurd h6 hne
    · exact h6

theorem eval_same {a b : Act} {x : Operand} (h : ∀ t, x = .tmp t → a.tmps[t]? = b.tmps[t]?) : a.eval x = b.eval x := by
  cases x with
  | tmp t => simp only [Act.eval, Array.getD_eq_getD_getElem?]; rw [h t rfl]
  | const v => rfl
  | global g => rfl
  | func f => rfl

/-- What each of the N operations does in the frame AF. -/
def OpVal (P : Program) (AF : Act) (w : World) (o : Oper) : Prop := ∃ d v, o.dst = some d ∧ AF.tmps[d]? = some v ∧ (execOp AF.eval o).run P w = .ok (.value v) w ∧ o.about P w AF.eval = none
def AllVals (P : Program) (AF : Act) (w : World) : List Oper → Prop
  | [] => True
  | o :: l => OpVal P AF w o ∧ AllVals P AF w l
theorem AllVals.at_ {AF : Act} {w : World} : ∀ {l : List Oper}, AllVals P AF w l → ∀ (i : Nat) (o : Oper), l[i]? = some o → OpVal P AF w o := by
  intro l
  induction l with
  | nil => intro _ i o h; simp at h
  | cons x l ih =>
    intro h i o ho
    cases i with
    | zero => simp at ho; subst ho; exact h.1
    | succ i => exact ih h.2 i o (by simpa using ho)

theorem regionIn_final {id : Nat} {a : Act} {w : World} (N : Nat) (AF : Act) (hm : P.follows .mixedOrders = true) (he : early ops = true) (hs0 : ops.size = N + 2)
    (hA : ((List.range N).all fun j => (ancs ops 6 N).contains j) = true) (hB : (waits ops (N + 1)).contains N = true) (hH : headB ops N = true)
    (hdf : AF.defers = a.defers) (hsz : AF.tmps.size = a.tmps.size) (hsame : ∀ t, (∀ j, j < N → dstOf ops j ≠ some t) → AF.tmps[t]? = a.tmps[t]?)
    (hv : AllVals P AF w.drew (ops.toList.take N))
    (tail : wpOpIn F n P ops Q N (fun a1 w1 => wpOpIn F n P ops Q (N + 1) (fun a2 w2 => Q .normal a2 w2) a1 w1) AF w.drew) :
    (Code.region id ops true).wpIn F n P Q a w := by
  have hval : ∀ i o, i < N → ops[i]? = some o → OpVal P AF w.drew o := fun i o hi ho => hv.at_ i o (by
    rw [List.getElem?_take_of_lt hi, Array.getElem?_toList]; exact ho)
  refine regionIn_head N hm he hs0 hA hB (fun l x => x.defers = a.defers ∧ x.tmps.size = a.tmps.size ∧ (∀ j, j < N → l.getD j false = true → ∀ t, dstOf ops j = some t → x.tmps[t]? = AF.tmps[t]?) ∧
    (∀ t, (∀ j, j < N → dstOf ops j = some t → l.getD j false = false) → x.tmps[t]? = a.tmps[t]?)) ?_ ?_ ?_
  · refine ⟨rfl, rfl, fun j hj h => ?_, fun _ _ => rfl⟩
    rw [Array.getD_eq_getD_getElem?] at h
    simp [hs0, show j < N + 2 by omega] at h
  · rintro i o hi ho l x ⟨x1, x2, x3, x4⟩ hls hl hd
    have hH' := head_at hH hi ho
    obtain ⟨d, v, hd1, hd2, hd3, hd4⟩ := hval i o hi ho
    have hw := waits_ok ho hd
    have hdi : dstOf ops i = some d := by unfold dstOf; rw [ho]; exact hd1
    have hev : ∀ y ∈ o.op.operands, x.eval y = AF.eval y := by
      intro y hy
      refine eval_same fun t ht => ?_
      subst ht
      by_cases hc : ∃ j, j < N ∧ dstOf ops j = some t
      · obtain ⟨j, hj, hjt⟩ := hc
        exact x3 j hj (hw j (hH'.looks t hy j hj hjt)) t hjt
      · have hno : ∀ j, j < N → dstOf ops j ≠ some t := fun j hj e => hc ⟨j, hj, e⟩
        rw [x4 t (fun j hj e => absurd e (hno j hj)), hsame t hno]
    have hex := execOp_congr o hH'.sel hev
    have hab := about_congr (P := P) o w.drew hev
    unfold wpOpIn
    rw [ho]
    simp only [Region.wanted, hH'.guard, if_true]
    unfold Oper.wpIn
    rw [Oper.semAt_eq _ _ _ hH'.dfr, hex, hd3, hab, hd4]
    refine ⟨fun f hf => (by cases hf), ?_⟩
    rw [Oper.uponIn_value, hd1]
    have hil : i < l.size := by rw [hls]; exact (Array.getElem?_eq_some_iff.1 ho).1
    refine ⟨rfl, x1, by simpa [Act.put] using x2, ?_, ?_⟩
    · intro j hj hjl t hjt
      simp only [Act.put]
      rw [Array.getElem?_setIfInBounds]
      by_cases e : d = t
      · subst e
        have hlt : d < x.tmps.size := by rw [x2, ← hsz]; exact (Array.getElem?_eq_some_iff.1 hd2).1
        rw [if_pos rfl, if_pos hlt, hd2]
      · rw [if_neg e]
        have hji : j ≠ i := fun c => by subst c; rw [hdi] at hjt; exact e (Option.some.inj hjt)
        rw [getD_set1 hil, if_neg (fun c => hji c.symm)] at hjl
        exact x3 j hj hjl t hjt
    · intro t ht
      simp only [Act.put]
      rw [Array.getElem?_setIfInBounds]
      have hdt : d ≠ t := fun c => by
        subst c
        have := ht i hi hdi
        rw [getD_set1 hil, if_pos rfl] at this
        cases this
      rw [if_neg hdt]
      refine x4 t fun j hj hjt => ?_
      have := ht j hj hjt
      rw [getD_set1 hil] at this
      split at this
      · cases this
      · exact this
  · rintro l x ⟨x1, x2, x3, x4⟩ hls hall
    have hx : x = AF := by
      obtain ⟨xt, xd⟩ := x
      obtain ⟨ft, fd⟩ := AF
      dsimp only at *
      have e1 : xt = ft := by
        refine Array.ext_getElem? fun t => ?_
        by_cases hc : ∃ j, j < N ∧ dstOf ops j = some t
        · obtain ⟨j, hj, hjt⟩ := hc
          exact x3 j hj (getD_tt (by omega) (hall j hj)) t hjt
        · have hno : ∀ j, j < N → dstOf ops j ≠ some t := fun j hj e => hc ⟨j, hj, e⟩
          rw [x4 t (fun j hj e => absurd e (hno j hj)), hsame t hno]
      rw [e1, x1, hdf]
    rw [hx]
    exact tail

theorem updAll_defers (a : Act) (l : List (Nat × Value)) : (updAll a l).defers = a.defers := by
  induction l with
  | nil => rfl
  | cons p l ih => exact ih
theorem updAll_size (a : Act) (l : List (Nat × Value)) : (updAll a l).tmps.size = a.tmps.size := by
  induction l with
  | nil => rfl
  | cons p l ih => simpa [updAll, Act.put] using ih
theorem updAll_same (a : Act) (l : List (Nat × Value)) (t : Nat) (h : ∀ p ∈ l, p.1 ≠ t) : (updAll a l).tmps[t]? = a.tmps[t]? := by
  induction l with
  | nil => rfl
  | cons p l ih =>
    have h1 := h p (List.mem_cons_self ..)
    simp only [updAll, Act.put]
    rw [Array.getElem?_setIfInBounds, if_neg h1]
    exact ih (fun q hq => h q (List.mem_cons_of_mem _ hq))
theorem regionIn_vals0 {id : Nat} {a : Act} {w : World} (N : Nat) (vals : List (Nat × Value)) (hm : P.follows .mixedOrders = true) (he : early ops = true) (hs0 : ops.size = N + 2)
    (hA : ((List.range N).all fun j => (ancs ops 6 N).contains j) = true) (hB : (waits ops (N + 1)).contains N = true) (hH : headB ops N = true)
    (hds : vals.map (fun p => some p.1) = (List.range N).map (dstOf ops)) (hv : AllVals P (updAll a vals) w.drew (ops.toList.take N))
    (tail : wpOpIn F n P ops Q N (fun a1 w1 => wpOpIn F n P ops Q (N + 1) (fun a2 w2 => Q .normal a2 w2) a1 w1) (updAll a vals) w.drew) :
    (Code.region id ops true).wpIn F n P Q a w :=
  regionIn_final N (updAll a vals) hm he hs0 hA hB hH (updAll_defers _ _) (updAll_size _ _) (fun t ht => updAll_same _ _ _ fun p hp e => by
    have h1 : some p.1 ∈ vals.map (fun p => some p.1) := List.mem_map.2 ⟨p, hp, rfl⟩
    rw [hds] at h1
    obtain ⟨j, hj, hjd⟩ := List.mem_map.1 h1
    exact ht j (List.mem_range.1 hj) (by rw [hjd, e])) hv tail
theorem regionIn_vals {id : Nat} {a : Act} {w : World} (N : Nat) (vals : List (Nat × Value)) (_ : F.round = none) (hm : P.follows .mixedOrders = true) (he : early ops = true) (hs0 : ops.size = N + 2)
    (hA : ((List.range N).all fun j => (ancs ops 6 N).contains j) = true) (hB : (waits ops (N + 1)).contains N = true) (hH : headB ops N = true)
    (hds : vals.map (fun p => some p.1) = (List.range N).map (dstOf ops)) (hv : AllVals P (updAll a vals) w.drew (ops.toList.take N))
    (tail : wpOpIn F n P ops Q N (fun a1 w1 => wpOpIn F n P ops Q (N + 1) (fun a2 w2 => Q .normal a2 w2) a1 w1) (updAll a vals) w.drew) :
    (Code.region id ops true).wpIn F n P Q a w := regionIn_vals0 N vals hm he hs0 hA hB hH hds hv tail
end

end Go.Proofs.Ytkldlmbccdfjdaa

/-
  The walk of pieces: the iterator over a curve's pieces.
-/
set_option linter.unusedSimpArgs false
set_option linter.unusedVariables false
namespace Go.Proofs.Ytkldlmbccdfjdaa
open Go.RowKit Go.Shelf
attribute [local go_sem] Oper.semAt_some

/-- What pieces hands to the loop: the number and the piece. -/
def pcs (xs ys : List Int) (k : Nat) : Array Value := #[.int .i64 k, .agg #[.int .i64 (xs.getD k 0), .int .i64 (ys.getD k 0), .int .i64 (xs.getD (k + 1) 0 - xs.getD k 0), .int .i64 (ys.getD (k + 1) 0 - ys.getD k 0)]]

set_option maxRecDepth 100000 in
set_option maxHeartbeats 8000000 in
theorem pieces1_in (F : Fence) (n : Nat) (hf : F.fn 83) (hro : F.round = none) (hn : 1 ≤ n) (l Bs n₀ bu ou cu bv ov cv len : Nat) (xs ys : List Int) (h2 : 2 ≤ len) (hlen : len ≤ 1000000) (hB : Bs < n₀) (hbu : bu < n₀) (hbv : bv < n₀)
    (hq : ∀ k, -1099511627776 ≤ xs.getD k 0 ∧ xs.getD k 0 ≤ 1099511627776 ∧ -1099511627776 ≤ ys.getD k 0 ∧ ys.getD k 0 ≤ 1099511627776) (J Jx : List Nat → World → Prop)
    (hY : ∀ pre x W, J pre W → pre.length < len - 1 → YieldAt F (n - 1) Try.prog l (pcs xs ys x) W fun e W' =>
      (e = .returned (.bool true) ∧ J (pre ++ [x]) W' ∧ Below n₀ W W') ∨ (e = .returned (.bool false) ∧ Jx (pre ++ [x]) W')) (hJd : ∀ pre W, J pre W → J pre W.drew)
    (W : World) (hX : W.cell? ⟨Bs, 0, none⟩ = some (.slice (some ⟨bu, ou, none⟩) len cu)) (hYs : W.cell? ⟨Bs, 1, none⟩ = some (.slice (some ⟨bv, ov, none⟩) len cv))
    (hcx : ∀ k, k < len → W.cell? ⟨bu, ou + k, none⟩ = some (.int .i64 (xs.getD k 0))) (hcy : ∀ k, k < len → W.cell? ⟨bv, ov + k, none⟩ = some (.int .i64 (ys.getD k 0))) (h0 : J [] W) :
    CallsIn F n Try.prog 83 #[.func (.yield l) #[] #[], .pointer (some ⟨Bs, 0, none⟩)] W fun e W' => (∃ v, e = .returned v) ∧
      ((∃ zs, zs = List.range (len - 1) ∧ J zs W') ∨ (∃ pre, (∃ k, k ≤ len - 1 ∧ pre = List.range k) ∧ Jx pre W')) := by
  refine callsIn_of_wp Try.func83 rfl hf ?_ hro
  simp only [Try.ntmps83, List.size_toArray, List.length_cons, List.length_nil, Nat.reduceAdd, Nat.reduceSub, Array.replicate_succ, Array.replicate_zero, List.push_toArray, List.append_toArray, List.nil_append, List.cons_append]
  have e1 : ((len : Int) - 1) = ((len - 1 : Nat) : Int) := by omega
  gi_wp2
  gi_loopw [8] (fun i wr => ∃ k : Nat, k ≤ len - 1 ∧ i = .int .i64 k ∧ J (List.range k) wr ∧ Below n₀ W wr) (fun i _ => len - 1 - (intOf i).toNat)
  case atStart => exact ⟨0, Nat.zero_le _, rfl, h0, Below.refl _ _⟩
  case round =>
    obtain ⟨k, hk, rfl, hJs, hnx⟩ := hrel
    by_cases hlt : k < len - 1
    · obtain ⟨fn, tmps, assign, body, hy, hR⟩ := hY _ k wr.drew (hJd _ _ hJs) (by rw [List.length_range]; exact hlt)
      dsimp only [pcs] at hy
      have c0 := (hnx.cell (p := ⟨Bs, 0, none⟩) hB).trans hX
      have c1 := (hnx.cell (p := ⟨Bs, 1, none⟩) hB).trans hYs
      have c2 := (hnx.cell (p := ⟨bu, ou + k, none⟩) hbu).trans (hcx k (by omega))
      have c3 := (hnx.cell (p := ⟨bv, ov + k, none⟩) hbv).trans (hcy k (by omega))
      have c4 := (hnx.cell (p := ⟨bu, ou + (k + 1), none⟩) hbu).trans (hcx (k + 1) (by omega))
      have c5 := (hnx.cell (p := ⟨bv, ov + (k + 1), none⟩) hbv).trans (hcy (k + 1) (by omega))
      obtain ⟨q1, q2, q3, q4⟩ := hq k
      obtain ⟨q5, q6, q7, q8⟩ := hq (k + 1)
      clear hcx hcy hX hYs hq
      generalize xs.getD k 0 = X0 at *
      generalize ys.getD k 0 = Y0 at *
      generalize xs.getD (k + 1) 0 = X1 at *
      generalize ys.getD (k + 1) 0 = Y1 at *
      have hk1 : k < len := by omega
      have hk2 : k + 1 < len := by omega
      gi_wp2
      refine regionIn_vals 37 [(11, (.func (.yield l) #[] #[])), (12, (.int .i64 k)), (13, (.pointer (some ⟨Bs, 0, none⟩))), (14, (.slice (some ⟨bu, ou, none⟩) len cu)), (15, (.int .i64 k)), (16, (.pointer (some ⟨bu, ou + k, none⟩))), (17, (.int .i64 X0)), (18, (.pointer (some ⟨Bs, 1, none⟩))), (19, (.slice (some ⟨bv, ov, none⟩) len cv)), (20, (.int .i64 k)), (21, (.pointer (some ⟨bv, ov + k, none⟩))), (22, (.int .i64 Y0)), (23, (.pointer (some ⟨Bs, 0, none⟩))), (24, (.slice (some ⟨bu, ou, none⟩) len cu)), (25, (.int .i64 k)), (26, (.int .i64 (k + 1))), (27, (.pointer (some ⟨bu, ou + (k + 1), none⟩))), (28, (.int .i64 X1)), (29, (.pointer (some ⟨Bs, 0, none⟩))), (30, (.slice (some ⟨bu, ou, none⟩) len cu)), (31, (.int .i64 k)), (32, (.pointer (some ⟨bu, ou + k, none⟩))), (33, (.int .i64 X0)), (34, (.int .i64 (X1 - X0))), (35, (.pointer (some ⟨Bs, 1, none⟩))), (36, (.slice (some ⟨bv, ov, none⟩) len cv)), (37, (.int .i64 k)), (38, (.int .i64 (k + 1))), (39, (.pointer (some ⟨bv, ov + (k + 1), none⟩))), (40, (.int .i64 Y1)), (41, (.pointer (some ⟨Bs, 1, none⟩))), (42, (.slice (some ⟨bv, ov, none⟩) len cv)), (43, (.int .i64 k)), (44, (.pointer (some ⟨bv, ov + k, none⟩))), (45, (.int .i64 Y0)), (46, (.int .i64 (Y1 - Y0))), (47, (.agg #[.int .i64 X0, .int .i64 Y0, .int .i64 (X1 - X0), .int .i64 (Y1 - Y0)]))] hro (by kernel_rfl) (by kernel_rfl) rfl (by kernel_rfl) (by kernel_rfl) (by kernel_rfl) (by rfl) ?vals ?tail
      case vals =>
        simp only [updAll, Act.put, List.setIfInBounds_toArray, List.set_cons_zero, List.set_cons_succ, List.take_succ_cons, List.take_zero, AllVals]
        refine ⟨?_, ?_, ?_, ?_, ?_, ?_, ?_, ?_, ?_, ?_, ?_, ?_, ?_, ?_, ?_, ?_, ?_, ?_, ?_, ?_, ?_, ?_, ?_, ?_, ?_, ?_, ?_, ?_, ?_, ?_, ?_, ?_, ?_, ?_, ?_, ?_, ?_, trivial⟩
        all_goals (refine ⟨_, _, rfl, rfl, ?_, ?_⟩ <;> go_simp <;> (first | exact Go.IntWalk.i64_in _ ⟨by omega, by omega⟩ | (intro h; exfalso; omega)))
      case tail =>
        simp only [updAll, Act.put, List.setIfInBounds_toArray, List.set_cons_zero, List.set_cons_succ]
        refine wpOpIn_plain rfl rfl ?_
        gi_wp2
        refine hR.mono ?_
        rintro e W3 (⟨rfl, hJ3, hk3⟩ | ⟨rfl, hJx3⟩)
        · refine wpOpIn_plain rfl rfl ?_
          gi_wp2
          go_roundw
          case rel => exact ⟨k + 1, by omega, by go_num, by rw [List.range_succ]; exact hJ3, hnx.trans ((show Below n₀ wr wr.drew from (Below.refl n₀ wr).drew).trans hk3)⟩
          case measure => (simp [intOf]; omega)
        · refine wpOpIn_plain rfl rfl ?_
          gi_wp2
          refine bodyPost_ret (results_none rfl _ _ _) rfl ?_
          exact ⟨⟨_, rfl⟩, .inr ⟨_, ⟨k + 1, by omega, List.range_succ.symm⟩, hJx3⟩⟩
    · obtain rfl : k = len - 1 := by omega
      gi_wp2
      go_end0
      exact ⟨⟨_, rfl⟩, .inl ⟨_, rfl, hJs⟩⟩

end Go.Proofs.Ytkldlmbccdfjdaa

/-
  The walk of CheckCurve.
-/
set_option linter.unusedSimpArgs false
set_option linter.unusedVariables false
namespace Go.Proofs.Ytkldlmbccdfjdaa
open Go.RowKit Go.Shelf

theorem strange_any (x : Int) (w : World) : Calls Try.prog 50 #[.int .i64 x] w fun e w' => e = .returned (.bool (!isQ x)) ∧ w = w' := by
  have C := Lib.hid (fun w => is_any x w)
  generalize isQ x = r at *
  go_enter Try.func50, Try.ntmps50
  go_wp2_with (go_at_call 39; refine (C.out _).mono ?_; rintro e w' ⟨rfl, rfl⟩)
  go_ret
  exact ⟨rfl, rfl⟩

set_option maxHeartbeats 400000 in
theorem indexFunc_ints (xs : List Int) (a : Option Addr) (c : Nat) (w : World) (hl : xs.length ≤ 1000000) (hA : IntAt a xs w) :
    Calls Try.prog 82 #[.slice a xs.length c, .func (.func 50) #[] #[]] w fun e w' => (∃ r : Int, e = .returned (.int .i64 r) ∧ (decide (0 ≤ r) = !(xs.all isQ))) ∧ w = w' := by
  have HA := Lib.hid hA
  clear hA
  go_enter Try.func82, Try.ntmps82
  go_wp2
  go_loopw [8] (fun i wr => ∃ k : Nat, k ≤ xs.length ∧ i = .int .i64 k ∧ wr = w ∧ Hid ((xs.take k).all isQ = true)) (fun i _ => xs.length - (intOf i).toNat)
  case atStart => exact ⟨0, by omega, rfl, rfl, by simp [Hid]⟩
  case round =>
    obtain ⟨k, hk, rfl, rfl, HQ⟩ := hrel
    by_cases hlt : k < xs.length
    · obtain ⟨b, off, rfl, g1⟩ := HA.out.at_ hlt
      have HS : Hid (isQ xs[k] = true → (xs.take (k + 1)).all isQ = true) := by
        intro h
        rw [List.take_succ_eq_append_getElem hlt, List.all_append, HQ.out]
        simp [h]
      have HN : Hid (isQ xs[k] = false → xs.all isQ = false) := by
        intro h
        rw [List.all_eq_false]
        exact ⟨xs[k], List.getElem_mem _, by simp [h]⟩
      have C := Lib.hid (fun w => strange_any xs[k] w)
      generalize isQ xs[k] = q at *
      generalize xs[k] = x at *
      clear HQ HA
      cases q
      all_goals
        go_wp2_with (go_at_call 50; refine (C.out _).mono ?_; rintro e w' ⟨rfl, rfl⟩)
      · go_ret
        exact ⟨⟨k, rfl, by rw [HN.out (by first | rfl | trivial)]; simp⟩, by first | rfl | trivial⟩
      · go_roundw
        case rel => exact ⟨k + 1, by omega, by go_num, by first | rfl | trivial, HS.out (by first | rfl | trivial)⟩
        case measure => (simp [intOf]; omega)
    · go_wp2
      go_ret
      obtain rfl : k = xs.length := by omega
      have := HQ.out
      rw [List.take_length] at this
      exact ⟨⟨-1, rfl, by simp [this]⟩, rfl⟩

set_option maxHeartbeats 400000 in
theorem containsFunc_ints (xs : List Int) (a : Option Addr) (c : Nat) (w : World) (hl : xs.length ≤ 1000000) (hA : IntAt a xs w) :
    Calls Try.prog 51 #[.slice a xs.length c, .func (.func 50) #[] #[]] w fun e w' => e = .returned (.bool (!(xs.all isQ))) ∧ w = w' := by
  have H := Lib.hid (fun w hA => indexFunc_ints xs a c w hl hA)
  have HA := Lib.hid hA
  clear hA
  go_enter Try.func51, Try.ntmps51
  go_wp2_with (go_at_call 82; refine (H.out _ HA.out).mono ?_; rintro e w' ⟨⟨r, rfl, hr⟩, rfl⟩)
  go_ret
  exact ⟨by simp [hr], rfl⟩

/-- What CheckCurve returns. -/
def preC (xs ys : List Int) : Prop := xs.length = ys.length ∧ 2 ≤ xs.length ∧ xs.all isQ = true ∧ ys.all isQ = true
def rising (xs ys : List Int) (k : Nat) : Prop := xs.getD k 0 < xs.getD (k + 1) 0 ∧ ys.getD k 0 ≤ ys.getD (k + 1) 0
instance (xs ys : List Int) : Decidable (preC xs ys) := by unfold preC; infer_instance
instance (xs ys : List Int) (k : Nat) : Decidable (rising xs ys k) := by unfold rising; infer_instance
def goodC (xs ys : List Int) : Prop := preC xs ys ∧ ∀ k, k < xs.length - 1 → rising xs ys k
instance (xs ys : List Int) : Decidable (goodC xs ys) := by unfold goodC; infer_instance
def checkC (xs ys : List Int) : Int := if 64 < max xs.length ys.length then 6 else if goodC xs ys then 0 else 2
theorem allQ_getD {xs : List Int} (h : xs.all isQ = true) (k : Nat) : -1099511627776 ≤ xs.getD k 0 ∧ xs.getD k 0 ≤ 1099511627776 := by
  rw [List.getD_eq_getElem?_getD]
  cases hx : xs[k]? with
  | none => simp
  | some x =>
    have := (List.all_eq_true.1 h) x (List.mem_of_getElem? hx)
    simpa using (isQ_iff x).1 this

/-- pieces: the curve is boxed, and the iterator holds on to the box. -/
theorem pieces_in (F : Fence) (n : Nat) (hf : F.fn 52) (hro : F.round = none) (sx sy : Value) (w : World) (h1 : sx.cells.size = 1) (h2 : sy.cells.size = 1) :
    CallsIn F n Try.prog 52 #[.agg #[sx, sy]] w fun e w' => e = .returned (.func (.func 83) #[] #[.pointer (some ⟨w.heap.size, 0, none⟩)]) ∧ w' = w.alloc (.cells #[sx, sy] 24) := by
  refine callsIn_of_wp Try.func52 rfl hf ?_ hro
  simp only [Try.ntmps52, List.size_toArray, List.length_cons, List.length_nil, Nat.reduceAdd, Nat.reduceSub, Array.replicate_succ, Array.replicate_zero, List.push_toArray, List.append_toArray, List.nil_append, List.cons_append]
  gi_wp2
  go_ret
  exact ⟨rfl, rfl⟩

theorem grown_drew (W : World) : W.grownBy W.drew none := ⟨rfl, rfl, rfl, Nat.le_refl _, fun _ _ _ => rfl⟩
theorem pieces_stops (F : Fence) (n : Nat) (hf : F.fn 83) (hro : F.round = none) (hn : 1 ≤ n) (Bs n₀ bu ou cu bv ov cv len : Nat) (xs ys : List Int) (h2 : 2 ≤ len) (hlen : len ≤ 1000000) (hB : Bs < n₀) (hbu : bu < n₀) (hbv : bv < n₀)
    (hq : ∀ k, -1099511627776 ≤ xs.getD k 0 ∧ xs.getD k 0 ≤ 1099511627776 ∧ -1099511627776 ≤ ys.getD k 0 ∧ ys.getD k 0 ≤ 1099511627776) (w : World) (hnw : n₀ ≤ w.heap.size)
    (hX : w.cell? ⟨Bs, 0, none⟩ = some (.slice (some ⟨bu, ou, none⟩) len cu)) (hY : w.cell? ⟨Bs, 1, none⟩ = some (.slice (some ⟨bv, ov, none⟩) len cv))
    (hcx : ∀ k, k < len → w.cell? ⟨bu, ou + k, none⟩ = some (.int .i64 (xs.getD k 0))) (hcy : ∀ k, k < len → w.cell? ⟨bv, ov + k, none⟩ = some (.int .i64 (ys.getD k 0))) :
    SeqStopsK F n Try.prog 83 #[.pointer (some ⟨Bs, 0, none⟩)] (pcs xs ys) (Below n₀) (fun l => l = List.range (len - 1)) (fun pre => ∃ k, k ≤ len - 1 ∧ pre = List.range k) (len - 1) w := fun l J Jx W hW hJ _ hYY h0 => by
  have hW0 := hW.mono hnw
  exact pieces1_in F n hf hro hn l Bs n₀ bu ou cu bv ov cv len xs ys h2 hlen hB hbu hbv hq J Jx hYY (fun pre W1 h => hJ pre W1 W1.drew none h (grown_drew W1) (fun r e => by cases e)) W
    ((hW0.cell (p := ⟨Bs, 0, none⟩) hB).trans hX) ((hW0.cell (p := ⟨Bs, 1, none⟩) hB).trans hY) (fun k hk => (hW0.cell (p := ⟨bu, ou + k, none⟩) hbu).trans (hcx k hk)) (fun k hk => (hW0.cell (p := ⟨bv, ov + k, none⟩) hbv).trans (hcy k hk)) h0

end Go.Proofs.Ytkldlmbccdfjdaa

/-
  The walk of CheckCurve: the loop over the pieces.
-/
set_option linter.unusedSimpArgs false
set_option linter.unusedVariables false
namespace Go.Proofs.Ytkldlmbccdfjdaa
open Go.RowKit Go.Shelf
attribute [local go_sem] Oper.semAt_some

set_option maxRecDepth 100000 in
set_option maxHeartbeats 4000000 in
theorem CheckCurve_pre (bu ou cu bv ov cv : Nat) (xs ys : List Int) (w : World) (hx : xs.length ≤ 64) (hpre : preC xs ys) (hA : IntAt (some ⟨bu, ou, none⟩) xs w) (hB : IntAt (some ⟨bv, ov, none⟩) ys w) :
    CallsIn Fence.wide 5 Try.prog 12 #[.agg #[.slice (some ⟨bu, ou, none⟩) xs.length cu, .slice (some ⟨bv, ov, none⟩) xs.length cv]] w fun e w' => e = .returned (.int .i64 (checkC xs ys)) ∧ Below w.heap.size w w' := by
  obtain ⟨p1, p2, p3, p4⟩ := hpre
  have hne : xs ≠ [] := fun e => by rw [e] at p2; simp at p2
  have hne2 : ys ≠ [] := fun e => by rw [e] at p1; rw [p1] at p2; simp at p2
  obtain ⟨_, _, e1, hbu, hcx⟩ := hA hne
  cases e1
  obtain ⟨_, _, e2, hbv, hcy⟩ := hB hne2
  cases e2
  have hq : ∀ k, -1099511627776 ≤ xs.getD k 0 ∧ xs.getD k 0 ≤ 1099511627776 ∧ -1099511627776 ≤ ys.getD k 0 ∧ ys.getD k 0 ≤ 1099511627776 := fun k => ⟨(allQ_getD p3 k).1, (allQ_getD p3 k).2, (allQ_getD p4 k).1, (allQ_getD p4 k).2⟩
  have C1 := Lib.hid (fun w h => containsFunc_ints xs (some ⟨bu, ou, none⟩) cu w (by omega) h)
  have C2 := Lib.hid (fun w h => containsFunc_ints ys (some ⟨bv, ov, none⟩) cv w (by omega) h)
  rw [← p1] at C2 hcy
  rw [p3] at C1
  rw [p4] at C2
  have hck : Hid ((checkC xs ys = 0 ↔ ∀ k, k < xs.length - 1 → rising xs ys k) ∧ ((∃ k, k < xs.length - 1 ∧ ¬ rising xs ys k) → checkC xs ys = 2)) := by
    unfold checkC
    rw [if_neg (by omega)]
    constructor
    · constructor
      · intro h
        split at h
        · rename_i hg; exact hg.2
        · exact absurd h (by decide)
      · intro h
        rw [if_pos ⟨⟨p1, p2, p3, p4⟩, h⟩]
    · rintro ⟨k, hk, hr⟩
      rw [if_neg (fun hg => hr (hg.2 k hk))]
  generalize checkC xs ys = r at *
  have HA := Lib.hid hA
  have HB := Lib.hid hB
  have HQ := Lib.hid hq
  have HCX := Lib.hid hcx
  have HCY := Lib.hid hcy
  clear hA hB hq hcx hcy
  have e1 : (if xs.length < xs.length then (xs.length : Int) else (xs.length : Int)) = xs.length := by simp
  have hx' : (xs.length : Int) ≤ 64 := by omega
  have p2' : 2 ≤ (xs.length : Int) := by omega
  clear p1 p3 p4
  refine callsIn_of_wp_marks Try.func12 rfl trivial ?_ rfl
  simp only [Try.ntmps12, List.size_toArray, List.length_cons, List.length_nil, Nat.reduceAdd, Nat.reduceSub, Array.replicate_succ, Array.replicate_zero, List.push_toArray, List.append_toArray, List.nil_append, List.cons_append]
  have kA := HA.out.step ((bAl' (o := .cells #[.slice (some ⟨bu, ou, none⟩) xs.length cu, .slice (some ⟨bv, ov, none⟩) xs.length cv] 24) (W := w)))
  gi_wp2_with (first | (refine ⟨trivial, ?_⟩; gi_at_call 51; refine (callsIn_wide.2 (C1.out _ (HA.out.step (by repeat' (first | exact Below.refl _ _ | assumption | apply bDrewN | apply bDrew | apply bAlloc | (refine bSet ?_ ?_ _) | (refine bStep ?_ (by assumption)) | omega | (simp <;> omega)))))).mono ?_; rintro e w' ⟨rfl, rfl⟩) | (refine ⟨trivial, ?_⟩; gi_at_call 51; refine (callsIn_wide.2 (C2.out _ (HB.out.step (by repeat' (first | exact Below.refl _ _ | assumption | apply bDrewN | apply bDrew | apply bAlloc | (refine bSet ?_ ?_ _) | (refine bStep ?_ (by assumption)) | omega | (simp <;> omega)))))).mono ?_; rintro e w' ⟨rfl, rfl⟩) | (refine ⟨trivial, ?_⟩; gi_at_call 52; refine (pieces_in Fence.wide _ trivial rfl _ _ _ rfl rfl).mono ?_; rintro e w' ⟨rfl, rfl⟩))
  have kW : Below w.heap.size w (((w.alloc (Obj.cells #[(.slice (some ⟨bu, ou, none⟩) xs.length cu), (.slice (some ⟨bv, ov, none⟩) xs.length cv)] 24)).alloc (Obj.cells #[.int .i64 0] 26)).alloc (Obj.cells #[(.slice (some ⟨bu, ou, none⟩) xs.length cu), (.slice (some ⟨bv, ov, none⟩) xs.length cv)] 24)) := (by repeat' (first | exact Below.refl _ _ | assumption | apply bDrewN | apply bDrew | apply bAlloc | (refine bSet ?_ ?_ _) | (refine bStep ?_ (by assumption)) | omega | (simp <;> omega)))
  refine wpIn_rangeFunc_ownH rfl (by omega) (gf := 83) (lb := #[.pointer (some ⟨w.heap.size + 1 + 1, 0, none⟩)]) rfl trivial (enters_of Try.func83 (by kernel_rfl) rfl)
    (pieces_stops Fence.wide (5 - 1) trivial rfl (by omega) (w.heap.size + 1 + 1) (w.heap.size + 3) bu ou cu bv ov cv xs.length xs ys p2 (by omega) (by omega) (by omega) (by omega) HQ.out (((w.alloc (Obj.cells #[(.slice (some ⟨bu, ou, none⟩) xs.length cu), (.slice (some ⟨bv, ov, none⟩) xs.length cv)] 24)).alloc (Obj.cells #[.int .i64 0] 26)).alloc (Obj.cells #[(.slice (some ⟨bu, ou, none⟩) xs.length cu), (.slice (some ⟨bv, ov, none⟩) xs.length cv)] 24)) (by simp) (by go_simp) (by go_simp) (fun k hk => (kW.cell (p := ⟨bu, ou + k, none⟩) hbu).trans (HCX.out k hk)) (fun k hk => (kW.cell (p := ⟨bv, ov + k, none⟩) hbv).trans (HCY.out k hk)))
    belowK_t (belowK_b (by simp)) (Below.refl _ _) (fun _ => rfl)
    (fun pre W => ((∀ k ∈ pre, rising xs ys k) ∧ W.cell? ⟨w.heap.size + 1, 0, none⟩ = some (.int .i64 0) ∧ W.frozen? ⟨w.heap.size + 1, 0, none⟩ = false ∧ W.cell? ⟨w.heap.size + 1 + 1, 0, none⟩ = some (.slice (some ⟨bu, ou, none⟩) xs.length cu)) ∧ Below w.heap.size w W)
    (fun c pre W => (c = .ret ∧ (∃ k ∈ pre, ¬ rising xs ys k) ∧ W.cell? ⟨w.heap.size + 1, 0, none⟩ = some (.int .i64 2)) ∧ Below w.heap.size w W)
    (OwnFrom.and (Own.from (fun s A B row hs hg hr => ⟨hs.1, cell_kept hs.2.1 hg hr, (frozen_kept hs.2.1 hg hr).trans hs.2.2.1, cell_kept hs.2.2.2 hg hr⟩) _) (ownFrom_below (Nat.le_refl _) (by simp; omega)))
    (fun c => OwnFrom.and (Own.from (fun s A B row hs hg hr => ⟨hs.1, hs.2.1, cell_kept hs.2.2 hg hr⟩) _) (ownFrom_below (Nat.le_refl _) (by simp; omega)))
    ⟨⟨by simp, by go_simp, by go_simp, by go_simp⟩, kW⟩
    (fun k a' W => ∃ Bx, w.heap.size + 2 < Bx ∧ W.cell? ⟨Bx, 2, none⟩ = some (.int .i64 (xs.getD (k + 1) 0 - xs.getD k 0)) ∧ W.cell? ⟨Bx, 3, none⟩ = some (.int .i64 (ys.getD (k + 1) 0 - ys.getD k 0)) ∧ a' = { tmps := #[(.agg #[(.slice (some ⟨bu, ou, none⟩) xs.length cu), (.slice (some ⟨bv, ov, none⟩) xs.length cv)]), (.pointer (some ⟨w.heap.size, 0, none⟩)), (.pointer (some ⟨w.heap.size + 1, 0, none⟩)), (.func (.func 50) #[] #[]), undef, (.pointer (some ⟨Bx, 0, none⟩)), (.pointer (some ⟨w.heap.size, 0, none⟩)), (.slice (some ⟨bu, ou, none⟩) xs.length cu), (.int .i64 xs.length), (.pointer (some ⟨w.heap.size, 1, none⟩)), (.slice (some ⟨bv, ov, none⟩) xs.length cv), (.int .i64 xs.length), (.int .i64 xs.length), (.bool (decide (64 < (xs.length : Int)))), (.pointer (some ⟨w.heap.size, 0, none⟩)), (.slice (some ⟨bu, ou, none⟩) xs.length cu), (.int .i64 xs.length), (.pointer (some ⟨w.heap.size, 1, none⟩)), (.slice (some ⟨bv, ov, none⟩) xs.length cv), (.int .i64 xs.length), (.bool false), (.bool false), (.pointer (some ⟨w.heap.size, 0, none⟩)), (.slice (some ⟨bu, ou, none⟩) xs.length cu), (.int .i64 xs.length), (.bool (decide ((xs.length : Int) < 2))), (.bool (decide ((xs.length : Int) < 2))), (.bool (decide ((xs.length : Int) < 2))), (.pointer (some ⟨w.heap.size, 0, none⟩)), (.slice (some ⟨bu, ou, none⟩) xs.length cu), (.func (.func 50) #[] #[]), (.bool false), (.bool (decide ((xs.length : Int) < 2))), (.bool (decide ((xs.length : Int) < 2))), (.pointer (some ⟨w.heap.size, 1, none⟩)), (.slice (some ⟨bv, ov, none⟩) xs.length cv), (.func (.func 50) #[] #[]), (.bool false), (.bool (decide ((xs.length : Int) < 2))), (.agg #[(.slice (some ⟨bu, ou, none⟩) xs.length cu), (.slice (some ⟨bv, ov, none⟩) xs.length cv)]), (.func (.func 83) #[] #[.pointer (some ⟨w.heap.size + 1 + 1, 0, none⟩)]), (.int .i64 k), (.agg #[.int .i64 (xs.getD k 0), .int .i64 (ys.getD k 0), .int .i64 (xs.getD (k + 1) 0 - xs.getD k 0), .int .i64 (ys.getD (k + 1) 0 - ys.getD k 0)]), undef, undef, undef, undef, undef, undef, undef, undef], defers := [] })
    (fun k a' _ A B row hs hg hr => by obtain ⟨Bx, h1, h2, h3, h4⟩ := hs; exact ⟨Bx, h1, cell_kept h2 hg (fun r e => (hr r e).2), cell_kept h3 hg (fun r e => (hr r e).2), h4⟩) ?assign ?body ?done ?stop
  case assign =>
    rintro l pre k W K ⟨⟨i1, i2, i3, i5⟩, i4⟩ hK
    have hs : w.heap.size + 1 + 1 < W.heap.size := cell_lt i5
    dsimp only [pcs]
    gi_wp2
    exact hK _ _ ((KeepsOthers.alloc _ _).from _) ((Below.refl _ W).alloc (by omega) _) ⟨⟨i1, cell_step i2 bAl', free_step i2 i3 bAl', cell_step i5 bAl'⟩, i4.alloc (by omega) _⟩ ⟨W.heap.size, by omega, by go_simp, by go_simp, rfl⟩
  case body =>
    rintro l pre k a' W hl ⟨r', hr'⟩ ⟨⟨i1, i2, i3, i5⟩, i4⟩ ⟨Bx, hBx, c2, c3, rfl⟩ hlt
    have hs : w.heap.size + 1 + 1 < W.heap.size := cell_lt i5
    obtain ⟨q1, q2, q3, q4⟩ := HQ.out k
    obtain ⟨q5, q6, q7, q8⟩ := HQ.out (k + 1)
    by_cases hr : rising xs ys k
    · have hd1 : 0 < xs.getD (k + 1) 0 - xs.getD k 0 := by have := hr.1; omega
      have hd2 : 0 ≤ ys.getD (k + 1) 0 - ys.getD k 0 := by have := hr.2; omega
      have hI : ∀ j ∈ pre ++ [k], rising xs ys j := by
        intro j hj
        rcases List.mem_append.1 hj with hj | hj
        · exact i1 j hj
        · simp at hj; rw [hj]; exact hr
      generalize xs.getD (k + 1) 0 - xs.getD k 0 = dx at *
      generalize ys.getD (k + 1) 0 - ys.getD k 0 = dy at *
      generalize xs.getD k 0 = X at *
      generalize ys.getD k 0 = Y at *
      clear hr q5 q6 q7 q8
      gi_wp2
      exact ⟨(KeepsOthers.refl _).from _, Below.refl _ _, ⟨hI, i2, i3, i5⟩, i4⟩
    · have hI : ∃ j ∈ pre ++ [k], ¬ rising xs ys j := ⟨k, by simp, hr⟩
      have hd : xs.getD (k + 1) 0 - xs.getD k 0 ≤ 0 ∨ (0 < xs.getD (k + 1) 0 - xs.getD k 0 ∧ ys.getD (k + 1) 0 - ys.getD k 0 < 0) := by
        unfold rising at hr; omega
      generalize xs.getD (k + 1) 0 - xs.getD k 0 = dx at *
      generalize ys.getD (k + 1) 0 - ys.getD k 0 = dy at *
      generalize xs.getD k 0 = X at *
      generalize ys.getD k 0 = Y at *
      clear hr q5 q6 q7 q8
      rcases hd with hd | ⟨hd, hd2⟩
      all_goals
        gi_wp2
        exact ⟨(KeepsOthers.setCell _ _ _).from _, ⟨rfl, hI, World.cell?_setCell_same' _ _ _ (by rw [i2]; rfl)⟩, i4.setCell (p := ⟨w.heap.size + 1, 0, none⟩) (by simp) _⟩
  case done =>
    rintro D zs W hD rfl ⟨⟨hall, hcr, hfr, -⟩, hB⟩ hK
    obtain rfl : r = 0 := hck.out.1.2 (fun k hk => hall k (List.mem_range.2 hk))
    gi_wp2
    have hK' := (KeepsOthers.setCell W ⟨w.heap.size + 1, 0, none⟩ (.int .i64 0)).same D _ hK rfl
    refine ⟨by simp, .inl ⟨_, _, rfl, run_takeDeferred hK', ?_⟩⟩
    have hc5 := cell_kept (World.cell?_setCell_same' W ⟨w.heap.size + 1, 0, none⟩ (.int .i64 0) (by rw [hcr]; rfl)) (grownBy_putObj' _ D (.deferred none)) (fun r e => by cases e; exact ⟨_, hK', rfl⟩)
    refine ⟨.int .i64 0, ?_, rfl, (hB.setCell (p := ⟨w.heap.size + 1, 0, none⟩) (by simp) _).trans (belowK_b (w := w) (Nat.le_refl _) _ D _ _ (by simp at hD; omega) hK' rfl rfl)⟩
    simp [results, Try.f12, go_sem, hc5]
  case stop =>
    rintro D c pre W hD ⟨k', hk', rfl⟩ ⟨⟨rfl, ⟨k, hk, hnr⟩, hcr⟩, hB⟩ hK
    obtain rfl : r = 2 := hck.out.2 ⟨k, by have := List.mem_range.1 hk; omega, hnr⟩
    gi_wp2
    refine ⟨by simp, .inl ⟨_, _, rfl, run_takeDeferred hK, ?_⟩⟩
    have hc5 := cell_kept hcr (grownBy_putObj' _ D (.deferred none)) (fun r e => by cases e; exact ⟨_, hK, rfl⟩)
    refine ⟨.int .i64 2, ?_, rfl, hB.trans (belowK_b (w := w) (Nat.le_refl _) W D _ _ (by simp at hD; omega) hK rfl rfl)⟩
    simp [results, Try.f12, go_sem, hc5]


end Go.Proofs.Ytkldlmbccdfjdaa

/-
  The walks of slices.Clone over spans, Halve, Widest of an empty box, SameBox.
-/
set_option linter.unusedSimpArgs false
set_option linter.unusedVariables false
namespace Go.Proofs.Ytkldlmbccdfjdaa
open Go.RowKit

/-- The block g holds the row l, and may be written. -/
def SpBlk (W : World) (g : Nat) (l : List (Int × Int)) : Prop := ∃ cur T, W.heap[g]? = some (.cells cur T (0, 0)) ∧ ∀ k, k < l.length → cur[k * 2]? = some (.int .i64 (l.getD k (0, 0)).1) ∧ cur[k * 2 + 1]? = some (.int .i64 (l.getD k (0, 0)).2)
theorem SpBlk.step {W w2 : World} {g : Nat} {l : List (Int × Int)} (h : SpBlk W g l) (hb : Below W.heap.size W w2) : SpBlk w2 g l := by
  obtain ⟨cur, T, h1, h2⟩ := h
  exact ⟨cur, T, blk_step h1 hb, h2⟩
theorem SpBlk.far {W : World} {g r o : Nat} {v : Value} {l : List (Int × Int)} (h : SpBlk W g l) (hne : g ≠ r) : SpBlk (W.setCell ⟨r, o, none⟩ v) g l := by
  obtain ⟨cur, T, h1, h2⟩ := h
  exact ⟨cur, T, blk_set_other h1 hne, h2⟩
theorem getD_set {l : List (Int × Int)} {i k : Nat} {s : Int × Int} (hi : i < l.length) : (l.set i s).getD k (0, 0) = if i = k then s else l.getD k (0, 0) := by
  simp only [List.getD_eq_getElem?_getD, List.getElem?_set]
  split
  · rename_i h; subst h; simp [hi]
  · rfl
theorem SpBlk.setHi {W : World} {g i : Nat} {y : Int} {l : List (Int × Int)} (h : SpBlk W g l) (hi : i < l.length) : SpBlk (W.setCell ⟨g, i * 2 + 1, none⟩ (.int .i64 y)) g (l.set i ((l.getD i (0, 0)).1, y)) := by
  obtain ⟨cur, T, h1, h2⟩ := h
  refine ⟨_, T, blk_set h1, fun k hk => ?_⟩
  rw [List.length_set] at hk
  obtain ⟨q1, q2⟩ := h2 k hk
  obtain ⟨q3, q4⟩ := h2 i hi
  have hlt : i * 2 + 1 < cur.size := (Array.getElem?_eq_some_iff.1 q4).1
  rw [getD_set hi]
  by_cases e : i = k
  · subst e
    simp only [if_true]
    refine ⟨?_, ?_⟩
    · rw [Array.getElem?_setIfInBounds, if_neg (by omega)]; exact q1
    · rw [Array.getElem?_setIfInBounds, if_pos rfl, if_pos hlt]
  · rw [if_neg e, Array.getElem?_setIfInBounds, if_neg (by omega), Array.getElem?_setIfInBounds, if_neg (by omega)]
    exact ⟨q1, q2⟩
theorem SpBlk.setLo {W : World} {g i : Nat} {x : Int} {l : List (Int × Int)} (h : SpBlk W g l) (hi : i < l.length) : SpBlk (W.setCell ⟨g, i * 2, none⟩ (.int .i64 x)) g (l.set i (x, (l.getD i (0, 0)).2)) := by
  obtain ⟨cur, T, h1, h2⟩ := h
  refine ⟨_, T, blk_set h1, fun k hk => ?_⟩
  rw [List.length_set] at hk
  obtain ⟨q1, q2⟩ := h2 k hk
  obtain ⟨q3, q4⟩ := h2 i hi
  have hlt : i * 2 < cur.size := (Array.getElem?_eq_some_iff.1 q3).1
  rw [getD_set hi]
  by_cases e : i = k
  · subst e
    simp only [if_true]
    refine ⟨?_, ?_⟩
    · rw [Array.getElem?_setIfInBounds, if_pos rfl, if_pos hlt]
    · rw [Array.getElem?_setIfInBounds, if_neg (by omega)]; exact q2
  · rw [if_neg e, Array.getElem?_setIfInBounds, if_neg (by omega), Array.getElem?_setIfInBounds, if_neg (by omega)]
    exact ⟨q1, q2⟩
theorem SpBlk.at_ {W : World} {g : Nat} {l : List (Int × Int)} (h : SpBlk W g l) : SpAt (some ⟨g, 0, none⟩) l W := fun _ => by
  obtain ⟨cur, T, h1, h2⟩ := h
  exact ⟨g, 0, rfl, blk_lt h1, fun j hj => ⟨blk_cell h1 (by simpa using (h2 j hj).1), blk_cell h1 (by simpa using (h2 j hj).2)⟩⟩
theorem SpBlk.cells {W : World} {g : Nat} {l : List (Int × Int)} (h : SpBlk W g l) {k : Nat} (hk : k < l.length) :
    W.cell? ⟨g, k * 2, none⟩ = some (.int .i64 (l.getD k (0, 0)).1) ∧ W.cell? ⟨g, k * 2 + 1, none⟩ = some (.int .i64 (l.getD k (0, 0)).2) ∧ W.frozen? ⟨g, k * 2, none⟩ = false ∧ W.frozen? ⟨g, k * 2 + 1, none⟩ = false := by
  obtain ⟨cur, T, h1, h2⟩ := h
  exact ⟨blk_cell h1 (h2 k hk).1, blk_cell h1 (h2 k hk).2, blk_free h1, blk_free h1⟩
theorem SpOwn.blk {W : World} {B : Nat} {v : Value} {l : List (Int × Int)} (h : SpOwn W B v l) (hn : l ≠ []) : ∃ g c, v = .slice (some ⟨g, 0, none⟩) l.length c ∧ B ≤ g ∧ SpBlk W g l := by
  obtain ⟨h1, h2⟩ := h
  rcases h2 with ⟨rfl, h2⟩ | ⟨g, cap, cur, rfl, q2, q3, q4, q5, q6, q7⟩
  · exact absurd (List.length_eq_zero_iff.1 h2) hn
  · refine ⟨_, _, rfl, q2, cur, _, q3, fun j hj => ?_⟩
    have hf := flatS_get l j hj
    rw [← q7] at hf
    rw [List.getElem?_take_of_lt (by omega), List.getElem?_take_of_lt (by omega)] at hf
    exact ⟨by simpa using hf.1, by simpa using hf.2⟩
theorem flatS_cells {W : World} {b off : Nat} {l : List (Int × Int)} (h : SpanCells W b off l) : ∀ j u, (flatS l)[j]? = some u → W.cell? ((⟨b, off, none⟩ : Addr).add j) = some u := by
  intro j u hu
  have hj : j < l.length * 2 := by rw [← flatS_len]; exact (List.getElem?_eq_some_iff.1 hu).1
  have e : j = j / 2 * 2 ∨ j = j / 2 * 2 + 1 := by omega
  have hk : j / 2 < l.length := by omega
  have q := h.2 (j / 2) hk
  have f := flatS_get l (j / 2) hk
  have hadd : ((⟨b, off, none⟩ : Addr).add j) = ⟨b, off + j, none⟩ := by simp [Addr.add]
  rw [hadd]
  generalize j / 2 = k at *
  rcases e with e | e
  · rw [e] at hu ⊢
    rw [f.1] at hu
    exact q.1.trans hu
  · rw [e] at hu ⊢
    rw [f.2] at hu
    exact q.2.trans hu
theorem flatS_one {l : List (Int × Int)} : ∀ u ∈ flatS l, u.oneCell' = true := by
  intro u hu
  unfold flatS at hu
  obtain ⟨s, _, hs⟩ := List.mem_flatMap.1 hu
  simp at hs
  rcases hs with rfl | rfl <;> rfl

set_option maxHeartbeats 1000000 in
set_option maxRecDepth 20000 in
theorem Clone_row (v : Value) (l : List (Int × Int)) (w : World) (hl : l.length ≤ 1000000) (hv : SpRow v l w) :
    Calls Try.prog 73 #[v] w fun e w' => ∃ x, e = .returned x ∧ SpOwn w' w.heap.size x l ∧ Below w.heap.size w w' := by
  obtain ⟨a, c, rfl, hv⟩ := hv
  obtain ⟨i0, hi, hz0, hz1, hz2⟩ := info_parts infoSp
  have HV := Lib.hid hv
  clear hv
  cases a with
  | none =>
    have hn : l = [] := by
      by_cases h : l = []
      · exact h
      · obtain ⟨b, off, h1, _⟩ := HV.out h
        cases h1
    subst hn
    clear HV
    have hE := Lib.run_eql_slice_nil (P := Try.prog) w 47 40 none 0 c 0 0 Try.underlying47
    go_enter Try.func73, Try.ntmps73
    go_wp2_with fail
    go_ret
    exact ⟨_, rfl, SpOwn.nil, Below.refl _ _⟩
  | some ad =>
    have hE := Lib.run_eql_slice_nil (P := Try.prog) w 47 40 (some ad) l.length c 0 0 Try.underlying47
    have hcell : Hid (∀ j u, (flatS l)[j]? = some u → (w.alloc (.cells #[] 40)).cell? (ad.add j) = some u) := by
      intro j u hu
      by_cases hn : l = []
      · subst hn; simp [flatS] at hu
      · obtain ⟨b, off, he, hc⟩ := HV.out hn
        cases he
        exact flatS_cells (hc.step bAl') j u hu
    have hown : Hid ((w.alloc (.cells #[] 40)).ownsRow w.heap.size 40 2 (.slice (some ⟨w.heap.size, 0, none⟩) 0 0) 0 []) :=
      ⟨rfl, Or.inr ⟨w.heap.size, 0, #[], rfl, Nat.le_refl _, blk_new _ _, by omega, by decide, rfl, rfl⟩⟩
    have hlen := flatS_len l
    have hone := flatS_one (l := l)
    have hfin : Hid (∀ (v : Value) (W : World), W.ownsRow w.heap.size 40 2 v (0 + l.length) ([] ++ flatS l) → SpOwn W w.heap.size v l) := fun v W h => by
      rw [Nat.zero_add, List.nil_append] at h; exact h
    generalize flatS l = F at *
    clear HV
    go_enter Try.func73, Try.ntmps73
    go_wp2_with (at_builtin; refine wpList_append_own _ rfl (.tmp 5) (.tmp 6) 47 rfl (w.heap.size) 40 i0 (.agg #[.int .i64 0, .int .i64 0]) 2 16 Try.underlying47 hi hz0 hz1 hz2 rfl (by decide) _ _ _ rfl hown.out ad l.length c F rfl hlen hcell.out hone (by unfold maxLen; omega) (by omega) (by simp) ?_; intro v' w1 hown' hgrow hnil)
    have hO := hfin.out v' w1 hown'
    have hB : Below w.heap.size w w1 := (bAl' (W := w)).grown hgrow (by simp) (own_ge hown.out)
    clear hown' hgrow hown hcell hfin hnil
    go_wp2_with fail
    go_ret
    exact ⟨_, rfl, hO, hB⟩

set_option maxHeartbeats 1000000 in
theorem Widest_nil (v : Value) (w : World) (hv : SpRow v [] w) : Calls Try.prog 30 #[v] w fun e w' => e = .returned (.tuple #[.int .i64 0, .int .i64 5]) ∧ Below w.heap.size w w' := by
  have V := Lib.hid (fun w h => CheckBox_row v [] w (by simp) h)
  rw [show checkB [] = 0 from by decide] at V
  have HV := Lib.hid hv
  obtain ⟨a, c, rfl, -⟩ := hv
  simp only [List.length_nil] at *
  go_enter Try.func30, Try.ntmps30
  go_wp2_with (go_at_call 19; refine (V.out _ HV.out).mono ?_; rintro e w1 ⟨rfl, hb1⟩)
  go_ret2
  exact ⟨rfl, (by repeat' (first | exact Below.refl _ _ | assumption | apply bDrewN | apply bDrew | apply bAlloc | (refine bSet ?_ ?_ _) | (refine bStep ?_ (by assumption)) | omega | (simp <;> omega)))⟩

set_option maxHeartbeats 1000000 in
set_option maxRecDepth 20000 in
theorem SameBox_row (v u : Value) (l m : List (Int × Int)) (w : World) (hl : l.length ≤ 1000000) (hm : m.length ≤ 1000000) (hv : SpRow v l w) (hu : SpRow u m w) :
    Calls Try.prog 27 #[v, u] w fun e w' => e = .returned (.bool (decide (l = m))) ∧ Below w.heap.size w w' := by
  obtain ⟨a, ca, rfl, hA⟩ := hv
  obtain ⟨b, cb, rfl, hB⟩ := hu
  by_cases h3 : l.length = m.length
  · have hg : ∀ B : Bool, (B = true ↔ ∀ k, k < l.length → l.getD k (0, 0) = m.getD k (0, 0)) → B = decide (l = m) := by
      intro B hB
      rw [Bool.eq_iff_iff, hB, decide_eq_true_eq]
      constructor
      · intro h
        refine List.ext_getElem h3 fun k h1 h2 => ?_
        have := h k h1
        simpa [List.getD_eq_getElem?_getD, List.getElem?_eq_getElem h1, List.getElem?_eq_getElem h2] using this
      · intro h k _; rw [h]
    generalize decide (l = m) = r at *
    have HG := Lib.hid hg
    have H3 := Lib.hid h3
    rw [← h3]
    have HA := Lib.hid hA
    have HB := Lib.hid hB
    clear hg h3 hA hB hm
    go_enter Try.func27, Try.ntmps27
    go_wp2_with fail
    go_loopw [5] (fun i wr => ∃ (k n : Nat), k ≤ l.length ∧ i = .int .i64 k ∧ wr = w.drewN n ∧ Hid (∀ j, j < k → l.getD j (0, 0) = m.getD j (0, 0))) (fun i _ => l.length - (intOf i).toNat)
    case atStart => exact ⟨0, 0, by omega, rfl, rfl, fun j hj => by omega⟩
    case round =>
      obtain ⟨k, n, hk, rfl, rfl, HI⟩ := hrel
      by_cases hlt : k < l.length
      · have hlt2 : k < m.length := by rw [← H3.out]; exact hlt
        obtain ⟨bu, ou, rfl, hc⟩ := HA.out (fun h => by rw [h] at hlt; simp at hlt)
        obtain ⟨bv, ov, rfl, hd⟩ := HB.out (fun h => by rw [h] at hlt2; simp at hlt2)
        obtain ⟨q1, q2⟩ := hc.at_ hlt
        obtain ⟨q3, q4⟩ := hd.at_ hlt2
        have hgk : l.getD k (0, 0) = l[k] := by simp [List.getD, List.getElem?_eq_getElem hlt]
        have hgm : m.getD k (0, 0) = m[k] := by simp [List.getD, List.getElem?_eq_getElem hlt2]
        have HI2 : Hid (l[k] = m[k] → ∀ j, j < k + 1 → l.getD j (0, 0) = m.getD j (0, 0)) := by
          intro h j hj
          rcases Nat.lt_or_ge j k with h' | h'
          · exact HI.out j h'
          · obtain rfl : j = k := by omega
            rw [hgk, hgm]; exact h
        have HN2 : Hid (l[k] ≠ m[k] → r = false) := by
          intro h
          refine (HG.out false ⟨fun h => absurd h (by decide), fun h' => ?_⟩).symm
          have := h' k hlt
          rw [hgk, hgm] at this
          exact absurd this h
        clear hc hd hgk hgm HG HI H3
        generalize l[k] = x at *
        generalize m[k] = y at *
        obtain ⟨x1, x2⟩ := x
        obtain ⟨y1, y2⟩ := y
        dsimp only at *
        by_cases hx1 : x1 = y1
        · by_cases hx2 : x2 = y2
          · subst hx1
            subst hx2
            have HI3 := Lib.hid (HI2.out rfl)
            clear HI2 HN2
            go_wp2_with fail
            go_quiet (fail)
            go_wp2_with fail
            go_roundw
            case rel => exact ⟨k + 1, _, by omega, by go_num, by first | exact Go.World.drewN_drewN .. | (simp; rfl) | rfl, HI3.out⟩
            case measure => (simp [intOf]; omega)
          · subst hx1
            obtain rfl := HN2.out (by simp [hx2])
            clear HI2 HN2
            go_wp2_with fail
            go_quiet (fail)
            go_wp2_with fail
            go_ret
            exact ⟨rfl, (by repeat' (first | exact Below.refl _ _ | assumption | apply bDrewN | apply bDrew | apply bAlloc | (refine bSet ?_ ?_ _) | (refine bStep ?_ (by assumption)) | omega | (simp <;> omega)))⟩
        · obtain rfl := HN2.out (by simp [hx1])
          clear HI2 HN2
          go_wp2_with fail
          go_quiet (fail)
          go_wp2_with fail
          go_ret
          exact ⟨rfl, (by repeat' (first | exact Below.refl _ _ | assumption | apply bDrewN | apply bDrew | apply bAlloc | (refine bSet ?_ ?_ _) | (refine bStep ?_ (by assumption)) | omega | (simp <;> omega)))⟩
      · obtain rfl : r = true := (HG.out true ⟨fun _ j hj => HI.out j (by omega), fun _ => rfl⟩).symm
        clear HA HB HI HG
        go_wp2_with fail
        go_ret
        exact ⟨rfl, (by repeat' (first | exact Below.refl _ _ | assumption | apply bDrewN | apply bDrew | apply bAlloc | (refine bSet ?_ ?_ _) | (refine bStep ?_ (by assumption)) | omega | (simp <;> omega)))⟩
  · have hr : decide (l = m) = false := decide_eq_false (fun h => h3 (by rw [h]))
    rw [hr]
    have h3' : (l.length : Int) ≠ (m.length : Int) := by omega
    clear hr hl hm h3 hA hB
    go_enter Try.func27, Try.ntmps27
    go_wp2_with fail
    go_ret
    exact ⟨rfl, (by repeat' (first | exact Below.refl _ _ | assumption | apply bDrewN | apply bDrew | apply bAlloc | (refine bSet ?_ ?_ _) | (refine bStep ?_ (by assumption)) | omega | (simp <;> omega)))⟩

end Go.Proofs.Ytkldlmbccdfjdaa

/-
  The walk of CheckCurve, at every curve; slices.Clone and slices.Equal over numbers.
-/
set_option linter.unusedSimpArgs false
set_option linter.unusedVariables false
namespace Go.Proofs.Ytkldlmbccdfjdaa
open Go.RowKit

set_option maxHeartbeats 2000000 in
set_option maxRecDepth 20000 in
theorem CheckCurve_any (a b : Option Addr) (ca cb : Nat) (xs ys : List Int) (w : World) (hx : xs.length ≤ 1000000) (hy : ys.length ≤ 1000000) (hA : IntAt a xs w) (hB : IntAt b ys w) :
    Calls Try.prog 12 #[.agg #[.slice a xs.length ca, .slice b ys.length cb]] w fun e w' => e = .returned (.int .i64 (checkC xs ys)) ∧ Below w.heap.size w w' := by
  by_cases h64 : 64 < max xs.length ys.length
  · have hr : checkC xs ys = 6 := by unfold checkC; rw [if_pos h64]
    rw [hr]
    have e1 : (if xs.length < ys.length then (ys.length : Int) else (xs.length : Int)) = max (xs.length : Int) (ys.length : Int) := by split <;> omega
    have h64' : 64 < max (xs.length : Int) (ys.length : Int) := by omega
    generalize max (xs.length : Int) (ys.length : Int) = M at *
    clear hr h64 hA hB hx hy
    go_enter Try.func12, Try.ntmps12
    go_wp2_with fail
    exact bodyPost_ret (v := .int .i64 6) (by simp only [results, Try.results12]; go_simp) rfl ⟨rfl, (by repeat' (first | exact Below.refl _ _ | assumption | apply bDrewN | apply bDrew | apply bAlloc | (refine bSet ?_ ?_ _) | (refine bStep ?_ (by assumption)) | omega | (simp <;> omega)))⟩
  by_cases hp : preC xs ys
  · have hne : xs ≠ [] := fun e => by have := hp.2.1; rw [e] at this; simp at this
    have hne2 : ys ≠ [] := fun e => by have := hp.2.1; rw [hp.1, e] at this; simp at this
    obtain ⟨bu, ou, rfl, _⟩ := id (hA hne)
    obtain ⟨bv, ov, rfl, _⟩ := id (hB hne2)
    have := callsIn_wide.1 (CheckCurve_pre bu ou ca bv ov cb xs ys w (by omega) hp hA hB)
    rw [hp.1] at this ⊢
    exact this
  · have hr : checkC xs ys = 2 := by unfold checkC; rw [if_neg h64, if_neg (fun h => hp h.1)]
    rw [hr]
    have e1 : (if xs.length < ys.length then (ys.length : Int) else (xs.length : Int)) = max (xs.length : Int) (ys.length : Int) := by split <;> omega
    have h64' : max (xs.length : Int) (ys.length : Int) ≤ 64 := by omega
    have C1 := Lib.hid (fun w h => containsFunc_ints xs a ca w hx h)
    have C2 := Lib.hid (fun w h => containsFunc_ints ys b cb w hy h)
    have HA := Lib.hid hA
    have HB := Lib.hid hB
    have hc : xs.length ≠ ys.length ∨ (xs.length = ys.length ∧ (xs.length < 2 ∨ (2 ≤ xs.length ∧ (xs.all isQ = false ∨ (xs.all isQ = true ∧ ys.all isQ = false))))) := by
      unfold preC at hp
      cases h1 : xs.all isQ <;> cases h2 : ys.all isQ <;> simp only [h1, h2] at hp <;> simp <;> simp at hp <;> omega
    generalize max (xs.length : Int) (ys.length : Int) = M at *
    clear hr h64 hA hB hx hy hp
    rcases hc with hc | ⟨hc, hc2 | ⟨hc2, hc3 | ⟨hc3, hc4⟩⟩⟩
    · have hc' : (xs.length : Int) ≠ (ys.length : Int) := by omega
      go_enter Try.func12, Try.ntmps12
      go_wp2_with fail
      exact bodyPost_ret (v := .int .i64 2) (by simp only [results, Try.results12]; go_simp) rfl ⟨rfl, (by repeat' (first | exact Below.refl _ _ | assumption | apply bDrewN | apply bDrew | apply bAlloc | (refine bSet ?_ ?_ _) | (refine bStep ?_ (by assumption)) | omega | (simp <;> omega)))⟩
    all_goals
      rw [← hc] at C2 e1 ⊢
      try rw [hc3] at C1
      try rw [hc4] at C2
      first | have hc2' : (xs.length : Int) < 2 := by omega | have hc2' : 2 ≤ (xs.length : Int) := by omega
      clear hc hc2
      skip
      go_enter Try.func12, Try.ntmps12
      go_wp2_with (go_at_call 51; first | (with_reducible refine (C1.out _ (HA.out.step (by repeat' (first | exact Below.refl _ _ | assumption | apply bDrewN | apply bDrew | apply bAlloc | (refine bSet ?_ ?_ _) | (refine bStep ?_ (by assumption)) | omega | (simp <;> omega))))).mono ?_; rintro e w' ⟨rfl, rfl⟩) | (with_reducible refine (C2.out _ (HB.out.step (by repeat' (first | exact Below.refl _ _ | assumption | apply bDrewN | apply bDrew | apply bAlloc | (refine bSet ?_ ?_ _) | (refine bStep ?_ (by assumption)) | omega | (simp <;> omega))))).mono ?_; rintro e w' ⟨rfl, rfl⟩))
      all_goals first | exact bodyPost_ret (v := .int .i64 2) (by simp only [results, Try.results12]; go_simp) rfl ⟨rfl, (by repeat' (first | exact Below.refl _ _ | assumption | apply bDrewN | apply bDrew | apply bAlloc | (refine bSet ?_ ?_ _) | (refine bStep ?_ (by assumption)) | omega | (simp <;> omega)))⟩ | skip

end Go.Proofs.Ytkldlmbccdfjdaa
