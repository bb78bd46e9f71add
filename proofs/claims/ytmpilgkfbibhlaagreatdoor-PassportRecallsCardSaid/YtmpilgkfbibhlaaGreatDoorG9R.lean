/-
 Inside a fence: a drawn region whose operations all read alone.
-/
import Derived.Test.YtmpilgkfbibhlaaGreatDoorG3R
import Derived.Test.YtmpilgkfbibhlaaGreatDoorG8R
import Derived.Test.YtmpilgkfbibhlaaGreatDoorProg
import Derived.RangeFuncNested
import Derived.RangeFuncBound
import Derived.RangeFuncCalls
import Derived.RangeFuncLeaves
import Derived.Shelf.Abstract
import Derived.WalkKit
import Derived.OwnWalkIn
import Derived.TacticsInMore
import Derived.LoopNIn
import Derived.LoopIn
import Derived.Laws.BitsAllLaws
set_option linter.unusedSimpArgs false
set_option linter.unusedVariables false
namespace Go.Proofs.YtmpilgkfbibhlaaGreatDoor
open Go.RowKit
section
variable {F : Fence} {n : Nat} {P : Program} {ops : Array Oper} {Q : Exit → Act → World → Prop}
theorem regionIn_all {id : Nat} {a : Act} {w : World} (vals : List (Nat × Value)) (hm : P.follows .mixedOrders = true) (he : early ops = true) (hH : headB ops ops.size = true)
  (hds : vals.map (fun p => some p.1) = (List.range ops.size).map (dstOf ops)) (hv : AllVals P (updAll a vals) w.drew ops.toList) (tail : Q .normal (updAll a vals) w.drew) :
  (Code.region id ops true).wpIn F n P Q a w := by
 have hsame : ∀ t, (∀ j, j < ops.size → dstOf ops j ≠ some t) → (updAll a vals).tmps[t]? = a.tmps[t]? := fun t ht => updAll_same _ _ _ fun p hp e => by
  have h1 : some p.1 ∈ vals.map (fun p => some p.1) := List.mem_map.2 ⟨p, hp, rfl⟩
  rw [hds] at h1
  obtain ⟨j, hj, hjd⟩ := List.mem_map.1 h1
  exact ht j (List.mem_range.1 hj) (by rw [hjd, e])
 have hval : ∀ i o, ops[i]? = some o → OpVal P (updAll a vals) w.drew o := fun i o ho => hv.at_ i o (by rw [Array.getElem?_toList]; exact ho)
 have hdf := updAll_defers a vals
 have hsz := updAll_size a vals
 generalize updAll a vals = AF at *
 refine wpIn_region_any hm (any_invIn he (fun l x w' => l.size = ops.size ∧ w' = w.drew ∧ x.defers = a.defers ∧ x.tmps.size = a.tmps.size ∧ (∀ j, j < ops.size → l.getD j false = true → ∀ t, dstOf ops j = some t → x.tmps[t]? = AF.tmps[t]?) ∧
  (∀ t, (∀ j, j < ops.size → dstOf ops j = some t → l.getD j false = false) → x.tmps[t]? = a.tmps[t]?)) (fun l a w h => h.1) ?_ ?_ ops.size _ _ _ ?_ (by rw [left_new]; exact Nat.le_refl _))
 ·rintro i o ho l x w' ⟨hls, rfl, x1, x2, x3, x4⟩ hl hd
  have hi : i < ops.size := (Array.getElem?_eq_some_iff.1 ho).1
  have hH' := head_at hH hi ho
  obtain ⟨d, v, hd1, hd2, hd3, hd4⟩ := hval i o ho
  have hw := waits_ok ho hd
  have hdi : dstOf ops i = some d := by unfold dstOf; rw [ho]; exact hd1
  have hev : ∀ y ∈ o.op.operands, x.eval y = AF.eval y := by
   intro y hy
   refine eval_same fun t ht => ?_
   subst ht
   by_cases hc : ∃ j, j < ops.size ∧ dstOf ops j = some t
   ·obtain ⟨j, hj, hjt⟩ := hc
    exact x3 j hj (hw j (hH'.looks t hy j hj hjt)) t hjt
   ·have hno : ∀ j, j < ops.size → dstOf ops j ≠ some t := fun j hj e => hc ⟨j, hj, e⟩
    rw [x4 t (fun j hj e => absurd e (hno j hj)), hsame t hno]
  have hex := execOp_congr o hH'.sel hev
  have hab := about_congr (P := P) o w.drew hev
  unfold wpOpIn
  rw [ho]
  simp only [Region.wanted, hH'.guard, if_true]
  unfold Oper.wpIn
  rw [Oper.semAt_eq _ _ _ hH'.dfr, hex, hd3, hab, hd4]
  refine ⟨fun f hf => (by cases hf), ?_⟩
  rw [Oper.uponIn_value, hd1]
  have hil : i < l.size := by rw [hls]; exact hi
  refine ⟨by simpa using hls, rfl, x1, by simpa [Act.put] using x2, ?_, ?_⟩
  ·intro j hj hjl t hjt
   simp only [Act.put]
   rw [Array.getElem?_setIfInBounds]
   by_cases e : d = t
   ·subst e
    have hlt : d < x.tmps.size := by rw [x2, ← hsz]; exact (Array.getElem?_eq_some_iff.1 hd2).1
    rw [if_pos rfl, if_pos hlt, hd2]
   ·rw [if_neg e]
    have hji : j ≠ i := fun c => by subst c; rw [hdi] at hjt; exact e (Option.some.inj hjt)
    rw [getD_set1 hil, if_neg (fun c => hji c.symm)] at hjl
    exact x3 j hj hjl t hjt
  ·intro t ht
   simp only [Act.put]
   rw [Array.getElem?_setIfInBounds]
   have hdt : d ≠ t := fun c => by
    subst c
    have := ht i hi hdi
    rw [getD_set1 hil, if_pos rfl] at this
    cases this
   rw [if_neg hdt]
   refine x4 t fun j hj hjt => ?_
   have := ht j hj hjt
   rw [getD_set1 hil] at this
   split at this
   ·cases this
   ·exact this
 ·rintro l x w' ⟨hls, rfl, x1, x2, x3, x4⟩ hall
  have hx : x = AF := by
   obtain ⟨xt, xd⟩ := x
   obtain ⟨ft, fd⟩ := AF
   dsimp only at *
   have e1 : xt = ft := by
    refine Array.ext_getElem? fun t => ?_
    by_cases hc : ∃ j, j < ops.size ∧ dstOf ops j = some t
    ·obtain ⟨j, hj, hjt⟩ := hc
     exact x3 j hj (getD_tt (by omega) (hall j hj)) t hjt
    ·have hno : ∀ j, j < ops.size → dstOf ops j ≠ some t := fun j hj e => hc ⟨j, hj, e⟩
     rw [x4 t (fun j hj e => absurd e (hno j hj)), hsame t hno]
   rw [e1, x1, hdf]
  rw [hx]
  exact tail
 ·refine ⟨by simp, rfl, rfl, rfl, fun j hj h => ?_, fun _ _ => rfl⟩
  rw [Array.getD_eq_getD_getElem?] at h
  simp [hj] at h
end
end Go.Proofs.YtmpilgkfbibhlaaGreatDoor
namespace Go.Proofs.YtmpilgkfbibhlaaGreatDoor
open Go.RowKit Go.Shelf
attribute [local go_sem] Oper.semAt_some
def Keep (s n₀ : Nat) (A B : World) : Prop := ∀ k, k < n₀ → k ≠ s → B.heap[k]? = A.heap[k]?
theorem Keep.refl (s n₀ : Nat) (A : World) : Keep s n₀ A A := fun _ _ _ => rfl
theorem Keep.trans {s n₀ : Nat} {A B C : World} (h : Keep s n₀ A B) (k : Keep s n₀ B C) : Keep s n₀ A C := fun i hi hs => (k i hi hs).trans (h i hi hs)
theorem Keep.of_below {s n₀ : Nat} {A B : World} (h : Below n₀ A B) : Keep s n₀ A B := fun i hi _ => h.block i hi
theorem Keep.cell {s n₀ : Nat} {A B : World} (h : Keep s n₀ A B) {p : Addr} (hp : p.block < n₀ ∧ p.block ≠ s) : B.cell? p = A.cell? p := World.cell?_of_block (h _ hp.1 hp.2)
def BytAt (a : Option Addr) (m : List Nat) (s n₀ : Nat) (W : World) : Prop := m ≠ [] → ∃ b off, a = some ⟨b, off, none⟩ ∧ (b < n₀ ∧ b ≠ s) ∧ ∀ k, k < m.length → W.cell? ⟨b, off + k, none⟩ = some (.int .u8 (m.getD k 0))
theorem BytAt.at_ {a : Option Addr} {m : List Nat} {s n₀ : Nat} {W : World} (h : BytAt a m s n₀ W) {k : Nat} (hk : k < m.length) : ∃ b off, a = some ⟨b, off, none⟩ ∧ (b < n₀ ∧ b ≠ s) ∧ W.cell? ⟨b, off + k, none⟩ = some (.int .u8 (m.getD k 0)) := by
 obtain ⟨b, off, rfl, h1, h2⟩ := h (fun e => by rw [e] at hk; simp at hk)
 exact ⟨b, off, rfl, h1, h2 k hk⟩
theorem BytAt.keep {a : Option Addr} {m : List Nat} {s n₀ : Nat} {W w2 : World} (h : BytAt a m s n₀ W) (hb : Keep s n₀ W w2) : BytAt a m s n₀ w2 := fun hn => by
 obtain ⟨b, off, rfl, h1, h2⟩ := h hn
 exact ⟨b, off, rfl, h1, fun k hk => (hb.cell (p := ⟨b, off + k, none⟩) h1).trans (h2 k hk)⟩
theorem or_low (v c : Nat) (hc : c < 256) : v * 256 ||| c = 256 * v + c := by
 have := Nat.shiftLeft_add_eq_or_of_lt (i := 8) (b := c) (by omega) v
 rw [Nat.shiftLeft_eq] at this
 rw [Nat.mul_comm 256 v]
 exact this.symm
theorem or_u64 (v c : Nat) (hv : v < 65536) (hc : c < 256) : bits .or .u64 ((v : Int) * 256) (c : Int) = ((256 * v + c : Nat) : Int) := by
 rw [show ((v : Int) * 256) = ((v * 256 : Nat) : Int) by omega, u64_or_nat _ _ (by omega) (by omega), or_low v c hc]
theorem or_u64_one (v : Nat) (hv : v < 65536) : bits .or .u64 ((v : Int) * 256) 1 = ((256 * v + 1 : Nat) : Int) := or_u64 v 1 hv (by decide)
set_option maxRecDepth 100000 in
set_option maxHeartbeats 4000000 in
theorem words1_in (F : Fence) (n : Nat) (hf : F.fn 134) (hro : F.round = none) (hn : 1 ≤ n) (l Bm Bf bf off s n₀ cap b : Nat) (a : Option Addr) (m : List Nat) (hb1 : 1 ≤ b) (hb3 : b ≤ 3) (hB : Byt m) (hlen : m.length ≤ 2000)
  (hBm : Bm < n₀ ∧ Bm ≠ s) (hBf : Bf < n₀ ∧ Bf ≠ s) (hbf : bf < n₀ ∧ bf ≠ s) (J Jx : List Nat → World → Prop)
  (hY : ∀ pre x W, J pre W → pre.length < wn b m → YieldAt F (n - 1) Tryz.prog l #[.int .u64 (wx b m x)] W fun e W' => (e = .returned (.bool true) ∧ J (pre ++ [x]) W' ∧ Keep s n₀ W W') ∨ (e = .returned (.bool false) ∧ Jx (pre ++ [x]) W')) (hJd : ∀ pre W, J pre W → J pre W.drew)
  (W : World) (hM : W.cell? ⟨Bm, 0, none⟩ = some (.slice a m.length cap)) (hF : W.cell? ⟨Bf, 0, none⟩ = some (.pointer (some ⟨bf, off, none⟩))) (hP : W.cell? ⟨bf, off + 1, none⟩ = some (.int .i64 b))
  (hA : BytAt a m s n₀ W) (h0 : J [] W) :
  CallsIn F n Tryz.prog 134 #[.func (.yield l) #[] #[], .pointer (some ⟨Bm, 0, none⟩), .pointer (some ⟨Bf, 0, none⟩)] W fun e W' => (∃ v, e = .returned v) ∧
   ((∃ zs, zs = List.range (wn b m) ∧ J zs W') ∨ (∃ pre, (∃ k, k ≤ wn b m ∧ pre = List.range k) ∧ Jx pre W')) := by
 refine callsIn_of_wp Tryz.func134 rfl hf ?_ hro
 simp only [Tryz.ntmps134, List.size_toArray, List.length_cons, List.length_nil, Nat.reduceAdd, Nat.reduceSub, Array.replicate_succ, Array.replicate_zero, List.push_toArray, List.append_toArray, List.nil_append, List.cons_append]
 obtain ⟨fn, tmps, assign, body, hy, hR⟩ := hY [] 0 W h0 (by unfold wn; simp)
 have hwx : ((wx b m 0 : Nat) : Int) = 1 := rfl
 rw [hwx] at hy
 gi_wp2
 refine hR.mono ?_
 rintro e W3 (⟨rfl, hJ3, hk3⟩ | ⟨rfl, hJx3⟩)
 ·gi_wp2
  replace hM := (hk3.cell (p := ⟨Bm, 0, none⟩) hBm).trans hM
  replace hF := (hk3.cell (p := ⟨Bf, 0, none⟩) hBf).trans hF
  replace hP := (hk3.cell (p := ⟨bf, off + 1, none⟩) hbf).trans hP
  replace hA := hA.keep hk3
  clear hR hy h0
  gi_loopw [4, 5, 6] (fun i _ _ wr => ∃ k : Nat, k ≤ m.length / b + 1 ∧ i = .int .i64 k ∧ J (List.range (k + 1)) wr ∧ Keep s n₀ W3 wr) (fun i _ _ _ => m.length / b + 1 - (intOf i).toNat)
  case atStart => exact ⟨0, Nat.zero_le _, rfl, hJ3, Keep.refl _ _ _⟩
  case round =>
   obtain ⟨k, hk, rfl, hJs, hnx⟩ := hrel
   have c0 := (hnx.cell (p := ⟨Bm, 0, none⟩) hBm).trans hM
   have c1 := (hnx.cell (p := ⟨Bf, 0, none⟩) hBf).trans hF
   have c2 := (hnx.cell (p := ⟨bf, off + 1, none⟩) hbf).trans hP
   have cA := hA.keep hnx
   clear hM hF hP hA hwx
   have hdiv : ((m.length / b : Nat) : Int) = (m.length : Int) / b := rfl
   have hdl : m.length / b ≤ 2000 := Nat.le_trans (Nat.div_le_self _ _) hlen
   have hwl : wn b m = m.length / b + 2 := rfl
   gi_wp2
   refine regionIn_all [(10, (.int .i64 k)), (11, (.slice a m.length cap)), (12, (.int .i64 m.length)), (13, (.pointer (some ⟨bf, off, none⟩))), (14, (.pointer (some ⟨bf, off, none⟩))), (15, (.pointer (some ⟨bf, off + 1, none⟩))), (16, (.int .i64 b)), (17, (.int .i64 (m.length / b : Nat))), (18, (.bool (decide ((k : Int) ≤ (m.length / b : Nat)))))] (by kernel_rfl) (by kernel_rfl) (by kernel_rfl) (by rfl) ?vals ?tail
   case vals =>
    simp only [updAll, Act.put, List.setIfInBounds_toArray, List.set_cons_zero, List.set_cons_succ, AllVals]
    refine ⟨?_, ?_, ?_, ?_, ?_, ?_, ?_, ?_, ?_, trivial⟩
    all_goals (refine ⟨_, _, rfl, rfl, ?_, ?_⟩ <;> go_simp)
    rw [if_neg (by omega), Go.IntWalk.i64_in _ ⟨by generalize m.length / b = q at *; omega, by generalize m.length / b = q at *; omega⟩]
   case tail =>
    simp only [updAll, Act.put, List.setIfInBounds_toArray, List.set_cons_zero, List.set_cons_succ]
    clear hdiv
    generalize hq : m.length / b = q at *
    by_cases hlt : k ≤ q
    ·have hlt' : (k : Int) ≤ (q : Int) := by omega
     have hw2 : wdTo b m k b = wx b m (k + 1) := rfl
     have hnx2 : ∀ j, wdTo b m k (j + 1) = 256 * wdTo b m k j + bt m (k * b + j) := fun j => rfl
     have hkb : k * b ≤ 6000 := Nat.le_trans (Nat.mul_le_mul (show k ≤ 2000 by omega) hb3) (by decide)
     have e1 : (k : Int) * (b : Int) = ((k * b : Nat) : Int) := by push_cast; rfl
     have e2 : ((k : Int) + 1) * (b : Int) = ((k * b : Nat) : Int) + b := by rw [Int.add_mul, e1, Int.one_mul]
     generalize k * b = t at *
     gi_wp2
     gi_loopw [5, 6] (fun v p w2 => ∃ j : Nat, j ≤ b ∧ v = .int .u64 (wdTo b m k j) ∧ p = .int .i64 (t + j) ∧ w2 = wr.drew) (fun _ p _ => t + b - (intOf p).toNat)
     case atStart => exact ⟨0, Nat.zero_le _, rfl, by first | rfl | simp, rfl⟩
     case round =>
      obtain ⟨j, hj, rfl, rfl, rfl⟩ := hrel
      by_cases hjb : j < b
      ·have hs := wdTo_small hB hb3 hjb k
       have hn2 := hnx2 j
       have hbl := bt_lt hB (t + j)
       rcases Nat.lt_trichotomy (t + j) m.length with h1 | h1 | h1
       ·obtain ⟨bm, om, rfl, hbm, hcm⟩ := cA.at_ h1
        have hbt : bt m (t + j) = m.getD (t + j) 0 := by unfold bt; rw [if_pos h1]
        rw [hbt] at hn2 hbl
        have hor := or_u64 _ _ hs hbl
        have e3 : ((t : Int) + j) = ((t + j : Nat) : Int) := by push_cast; rfl
        have e4 : ((t + j : Nat) : Int) + 1 = (t : Int) + ((j + 1 : Nat) : Int) := by push_cast; omega
        rw [e3]
        rw [← hn2] at hor
        generalize m.getD (t + j) 0 = c at *
        generalize hv : wdTo b m k j = v at *
        generalize hv2 : wdTo b m k (j + 1) = v2 at *
        generalize t + j = r at *
        gi_wp2
        go_roundw
        case rel => exact ⟨j + 1, by omega, congrArg _ (by omega), congrArg _ (by omega), by first | trivial | rfl⟩
        case measure => simp [intOf]; omega
       ·have hbt : bt m (t + j) = 1 := by unfold bt; rw [if_neg (by omega), if_pos h1]
        rw [hbt] at hn2
        have hor := or_u64_one _ hs
        rw [← hn2] at hor
        have h1' : (t : Int) + j = m.length := by omega
        have e4 : (m.length : Int) + 1 = (t : Int) + ((j + 1 : Nat) : Int) := by push_cast; omega
        generalize hv : wdTo b m k j = v at *
        generalize hv2 : wdTo b m k (j + 1) = v2 at *
        rw [h1']
        generalize m.length = r at *
        gi_wp2
        go_roundw
        case rel => exact ⟨j + 1, by omega, congrArg _ (by omega), congrArg _ (by omega), by first | trivial | rfl⟩
        case measure => simp [intOf]; omega
       ·have hbt : bt m (t + j) = 0 := by unfold bt; rw [if_neg (by omega), if_neg (by omega)]
        rw [hbt] at hn2
        have hor : ((256 * wdTo b m k j + 0 : Nat) : Int) = (wdTo b m k j : Int) * 256 := by push_cast; omega
        rw [← hn2] at hor
        have h1' : (m.length : Int) < (t : Int) + j := by omega
        generalize hv : wdTo b m k j = v at *
        generalize hv2 : wdTo b m k (j + 1) = v2 at *
        gi_wp2
        go_roundw
        case rel => exact ⟨j + 1, by omega, congrArg _ (by omega), congrArg _ (by omega), by first | trivial | rfl⟩
        case measure => simp [intOf]; omega
      ·obtain rfl : j = b := by omega
       obtain ⟨fn, tmps, assign, body, hy, hR⟩ := hY (List.range (k + 1)) (k + 1) wr.drew (hJd _ _ hJs) (by rw [List.length_range]; omega)
       rw [hw2]
       gi_wp2
       refine hR.mono ?_
       rintro e W4 (⟨rfl, hJ4, hk4⟩ | ⟨rfl, hJx4⟩)
       ·gi_wp2
        go_roundw
        case rel => exact ⟨k + 1, by omega, by go_num, by rw [List.range_succ]; exact hJ4, hnx.trans ((show Keep s n₀ wr wr.drew from fun _ _ _ => rfl).trans hk4)⟩
        case measure => (simp [intOf]; omega)
       ·gi_wp2
        refine bodyPost_ret (results_none rfl _ _ _) rfl ?_
        exact ⟨⟨_, rfl⟩, .inr ⟨_, ⟨k + 2, by omega, List.range_succ.symm⟩, hJx4⟩⟩
    ·have hlt' : (q : Int) < (k : Int) := by omega
     gi_wp2
     obtain rfl : k = q + 1 := by omega
     go_end0
     exact ⟨⟨_, rfl⟩, .inl ⟨_, rfl, by rw [hwl]; exact hJd _ _ hJs⟩⟩
 ·gi_wp2
  refine bodyPost_ret (results_none rfl _ _ _) rfl ?_
  exact ⟨⟨_, rfl⟩, .inr ⟨_, ⟨1, by unfold wn; generalize m.length / b = q; omega, rfl⟩, hJx3⟩⟩
theorem words_stops (F : Fence) (n : Nat) (hf : F.fn 134) (hro : F.round = none) (hn : 1 ≤ n) (Bm Bf bf off s n₀ cap b : Nat) (a : Option Addr) (m : List Nat) (hb1 : 1 ≤ b) (hb3 : b ≤ 3) (hB : Byt m) (hlen : m.length ≤ 2000)
  (hBm : Bm < n₀ ∧ Bm ≠ s) (hBf : Bf < n₀ ∧ Bf ≠ s) (hbf : bf < n₀ ∧ bf ≠ s) (w : World) (hnw : n₀ ≤ w.heap.size)
  (hM : w.cell? ⟨Bm, 0, none⟩ = some (.slice a m.length cap)) (hF : w.cell? ⟨Bf, 0, none⟩ = some (.pointer (some ⟨bf, off, none⟩))) (hP : w.cell? ⟨bf, off + 1, none⟩ = some (.int .i64 b)) (hA : BytAt a m s n₀ w) :
  SeqStopsK F n Tryz.prog 134 #[.pointer (some ⟨Bm, 0, none⟩), .pointer (some ⟨Bf, 0, none⟩)] (fun x => #[.int .u64 (wx b m x)]) (Keep s n₀) (fun l => l = List.range (wn b m)) (fun pre => ∃ k, k ≤ wn b m ∧ pre = List.range k) (wn b m) w := fun l J Jx W hW hJ _ hYY h0 => by
 have hW0 : Keep s n₀ w W := Keep.of_below (hW.mono hnw)
 exact words1_in F n hf hro hn l Bm Bf bf off s n₀ cap b a m hb1 hb3 hB hlen hBm hBf hbf J Jx hYY (fun pre W1 h => hJ pre W1 W1.drew none h ⟨rfl, rfl, rfl, Nat.le_refl _, fun _ _ _ => rfl⟩ (fun r e => by cases e)) W
  ((hW0.cell (p := ⟨Bm, 0, none⟩) hBm).trans hM) ((hW0.cell (p := ⟨Bf, 0, none⟩) hBf).trans hF) ((hW0.cell (p := ⟨bf, off + 1, none⟩) hbf).trans hP) (hA.keep hW0) h0
theorem words_in (F : Fence) (n : Nat) (hf : F.fn 96) (hro : F.round = none) (f : Option Addr) (a : Option Addr) (len cap : Nat) (w : World) :
  CallsIn F n Tryz.prog 96 #[.pointer f, .slice a len cap] w fun e w' => e = .returned (.func (.func 134) #[] #[.pointer (some ⟨w.heap.size + 1, 0, none⟩), .pointer (some ⟨w.heap.size, 0, none⟩)]) ∧
   w' = (w.alloc (.cells #[.pointer f] 95)).alloc (.cells #[.slice a len cap] 88) := by
 refine callsIn_of_wp Tryz.func96 rfl hf ?_ hro
 simp only [Tryz.ntmps96, List.size_toArray, List.length_cons, List.length_nil, Nat.reduceAdd, Nat.reduceSub, Array.replicate_succ, Array.replicate_zero, List.push_toArray, List.append_toArray, List.nil_append, List.cons_append]
 gi_wp2
 go_ret
 exact ⟨by simp, rfl⟩
end Go.Proofs.YtmpilgkfbibhlaaGreatDoor
namespace Go.Proofs.YtmpilgkfbibhlaaGreatDoor
open Go.RowKit Go.Shelf
attribute [local go_sem] Oper.semAt_some
theorem keep_b {s n₀ : Nat} {w : World} (hn : n₀ ≤ w.heap.size) (W : World) (l : Nat) (o o' : Obj) (hl : w.heap.size ≤ l) (h : W.heap[l]? = some o) (h1 : o.isCells = false) (h2 : o.isWalk = false) : Keep s n₀ W (W.putObj l o') := Keep.of_below (belowK_b hn W l o o' hl h h1 h2)
set_option maxRecDepth 100000 in
set_option maxHeartbeats 4000000 in
theorem digest_in (p b x bf off cap : Nat) (a : Option Addr) (m : List Nat) (w : World) (hp0 : 0 < p) (hp : p < 2147483648) (hx : x < 2147483648) (hb1 : 1 ≤ b) (hb3 : b ≤ 3) (hB : Byt m) (hlen : m.length ≤ 2000)
  (hbf : bf < w.heap.size) (hP : w.cell? ⟨bf, off, none⟩ = some (.int .u64 p)) (hQ : w.cell? ⟨bf, off + 1, none⟩ = some (.int .i64 b)) (hA : BytAt a m w.heap.size w.heap.size w) :
  CallsIn Fence.wide 5 Tryz.prog 41 #[.pointer (some ⟨bf, off, none⟩), .int .u64 x, .slice a m.length cap] w fun e w' => e = .returned (.int .u64 (dig p b x m)) ∧ Below w.heap.size w w' := by
 refine callsIn_of_wp_marks Tryz.func41 rfl trivial ?_ rfl
 simp only [Tryz.ntmps41, List.size_toArray, List.length_cons, List.length_nil, Nat.reduceAdd, Nat.reduceSub, Array.replicate_succ, Array.replicate_zero, List.push_toArray, List.append_toArray, List.nil_append, List.cons_append]
 gi_wp2_with (refine ⟨trivial, ?_⟩; gi_at_call 96; refine (words_in Fence.wide _ trivial rfl _ _ _ _ _).mono ?_; rintro e w' ⟨rfl, rfl⟩)
 have kW : Below w.heap.size w (((((w.alloc (Obj.cells #[(.pointer (some ⟨bf, off, none⟩))] 95)).alloc (Obj.cells #[(.int .u64 x)] 22)).alloc (Obj.cells #[.int .u64 0] 22)).alloc (Obj.cells #[(.pointer (some ⟨bf, off, none⟩))] 95)).alloc (Obj.cells #[(.slice a m.length cap)] 88)) := (((((Below.refl _ w).alloc (Nat.le_refl _) _).alloc (by simp) _).alloc (by simp; omega) _).alloc (by simp; omega) _).alloc (by simp; omega) _
 have e5 : ((((((w.alloc (Obj.cells #[(.pointer (some ⟨bf, off, none⟩))] 95)).alloc (Obj.cells #[(.int .u64 x)] 22)).alloc (Obj.cells #[.int .u64 0] 22)).alloc (Obj.cells #[(.pointer (some ⟨bf, off, none⟩))] 95)).alloc (Obj.cells #[(.slice a m.length cap)] 88))).heap.size = w.heap.size + 5 := by simp
 have kA : BytAt a m (w.heap.size + 1 + 1) (w.heap.size + 5) (((((w.alloc (Obj.cells #[(.pointer (some ⟨bf, off, none⟩))] 95)).alloc (Obj.cells #[(.int .u64 x)] 22)).alloc (Obj.cells #[.int .u64 0] 22)).alloc (Obj.cells #[(.pointer (some ⟨bf, off, none⟩))] 95)).alloc (Obj.cells #[(.slice a m.length cap)] 88)) := fun hn => by
  obtain ⟨b', o', rfl, h1, h2⟩ := hA hn
  exact ⟨b', o', rfl, ⟨by omega, by omega⟩, fun k hk => (kW.cell (p := ⟨b', o' + k, none⟩) h1.1).trans (h2 k hk)⟩
 refine wpIn_rangeFunc_ownH rfl (by omega) (gf := 134) (lb := #[.pointer (some ⟨w.heap.size + 1 + 1 + 1 + 1, 0, none⟩), .pointer (some ⟨w.heap.size + 1 + 1 + 1, 0, none⟩)]) rfl trivial (enters_of Tryz.func134 (by kernel_rfl) rfl)
  (words_stops Fence.wide (5 - 1) trivial rfl (by omega) (w.heap.size + 1 + 1 + 1 + 1) (w.heap.size + 1 + 1 + 1) bf off (w.heap.size + 1 + 1) (w.heap.size + 5) cap b a m hb1 hb3 hB hlen ⟨by omega, by omega⟩ ⟨by omega, by omega⟩ ⟨by omega, by omega⟩ (((((w.alloc (Obj.cells #[(.pointer (some ⟨bf, off, none⟩))] 95)).alloc (Obj.cells #[(.int .u64 x)] 22)).alloc (Obj.cells #[.int .u64 0] 22)).alloc (Obj.cells #[(.pointer (some ⟨bf, off, none⟩))] 95)).alloc (Obj.cells #[(.slice a m.length cap)] 88)) (by simp) (by go_simp) (by go_simp) ((kW.cell (p := ⟨bf, off + 1, none⟩) hbf).trans hQ) kA)
  Keep.trans (keep_b (by simp)) (Below.refl _ _) (fun _ => rfl)
  (fun pre W => (W.cell? ⟨w.heap.size + 1 + 1, 0, none⟩ = some (.int .u64 (horner p x (pre.map (wx b m)))) ∧ W.frozen? ⟨w.heap.size + 1 + 1, 0, none⟩ = false ∧ W.cell? ⟨w.heap.size, 0, none⟩ = some (.pointer (some ⟨bf, off, none⟩)) ∧ W.cell? ⟨w.heap.size + 1, 0, none⟩ = some (.int .u64 x)) ∧ Below w.heap.size w W)
  (fun c pre W => False)
  (OwnFrom.and (Own.from (fun s A B row hs hg hr => ⟨cell_kept hs.1 hg hr, (frozen_kept hs.1 hg hr).trans hs.2.1, cell_kept hs.2.2.1 hg hr, cell_kept hs.2.2.2 hg hr⟩) _) (ownFrom_below (Nat.le_refl _) (by simp; omega)))
  (fun c => fun s A B row hs _ _ => hs)
  ⟨⟨by go_simp; rfl, by go_simp, by go_simp, by go_simp⟩, kW⟩
  (fun k a' W => a' = { tmps := #[(.pointer (some ⟨bf, off, none⟩)), (.int .u64 x), (.slice a m.length cap), (.pointer (some ⟨w.heap.size, 0, none⟩)), (.pointer (some ⟨w.heap.size + 1, 0, none⟩)), undef, (.int .u64 0), (.pointer (some ⟨w.heap.size + 1 + 1, 0, none⟩)), (.int .u64 (wx b m k)), (.pointer (some ⟨bf, off, none⟩)), (.slice a m.length cap), (.func (.func 134) #[] #[.pointer (some ⟨w.heap.size + 1 + 1 + 1 + 1, 0, none⟩), .pointer (some ⟨w.heap.size + 1 + 1 + 1, 0, none⟩)]), (.int .u64 (wx b m k)), undef, undef, undef, undef, undef, undef, undef, undef, undef, undef, undef], defers := [] })
  (fun k a' _ A B row hs hg hr => hs) ?assign ?body ?done ?stop
 case assign =>
  rintro l pre k W K ⟨⟨i1, i2, i3, i5⟩, i4⟩ hK
  gi_wp2
  exact hK _ _ ((KeepsOthers.refl _).from _) (Keep.refl _ _ _) ⟨⟨i1, i2, i3, i5⟩, i4⟩ rfl
 case body =>
  rintro l pre k a' W hl ⟨r', hr'⟩ ⟨⟨i1, i2, i3, i5⟩, i4⟩ rfl hlt
  have hs : w.heap.size + 1 + 1 < W.heap.size := cell_lt i1
  have hfp := (i4.cell (p := ⟨bf, off, none⟩) hbf).trans hP
  have hnext : horner p x ((pre ++ [k]).map (wx b m)) = (horner p x (pre.map (wx b m)) + wx b m k) * x % p := by rw [List.map_append]; exact horner_snoc _ _ _ _
  have h1 := horner_lt hp0 x (pre.map (wx b m))
  have h2 := wx_lt hB hb3 k
  generalize horner p x (pre.map (wx b m)) = S at *
  generalize wx b m k = V at *
  have h3 : (S + V) * x ≤ 2164260863 * 2147483648 := Nat.mul_le_mul (by omega) (by omega)
  have e1 : ((S : Int) + (V : Int)) * (x : Int) = (((S + V) * x : Nat) : Int) := by push_cast; rfl
  generalize (S + V) * x = T at *
  have e2 : (T : Int).tmod p = ((T % p : Nat) : Int) := by rw [Int.tmod_eq_emod_of_nonneg (by omega)]; rfl
  have hTp : T % p < p := Nat.mod_lt _ hp0
  generalize hR : T % p = R at *
  gi_wp2
  refine regionIn_vals0 9 [(13, (.int .u64 S)), (14, (.int .u64 V)), (15, (.int .u64 (S + V))), (16, (.int .u64 x)), (17, (.int .u64 T)), (18, (.pointer (some ⟨bf, off, none⟩))), (19, (.pointer (some ⟨bf, off, none⟩))), (20, (.pointer (some ⟨bf, off, none⟩))), (21, (.int .u64 p))] (by kernel_rfl) (by kernel_rfl) rfl (by kernel_rfl) (by kernel_rfl) (by kernel_rfl) (by rfl) ?vals ?tail
  case vals =>
   simp only [updAll, Act.put, List.setIfInBounds_toArray, List.set_cons_zero, List.set_cons_succ, List.take_succ_cons, List.take_zero, AllVals]
   refine ⟨?_, ?_, ?_, ?_, ?_, ?_, ?_, ?_, ?_, trivial⟩
   all_goals (refine ⟨_, _, rfl, rfl, ?_, ?_⟩ <;> go_simp)
   all_goals (try exact Go.IntWalk.u64_in _ ⟨by omega, by omega⟩)
  case tail =>
   simp only [updAll, Act.put, List.setIfInBounds_toArray, List.set_cons_zero, List.set_cons_succ]
   refine wpOpIn_plain rfl rfl ?_
   gi_wp2
   refine wpOpIn_plain rfl rfl ?_
   gi_wp2
   have k1 := (KeepsOthers.setCell W ⟨w.heap.size + 1 + 1, 0, none⟩ (.int .u64 R)).from (w.heap.size + 5)
   have k2 : Keep (w.heap.size + 1 + 1) (w.heap.size + 5) W (W.setCell ⟨w.heap.size + 1 + 1, 0, none⟩ (.int .u64 R)) := fun q hq hne => Below.heap_setCell W _ _ _ hne
   have k3 := i4.setCell (p := ⟨w.heap.size + 1 + 1, 0, none⟩) (by simp; omega) (.int .u64 R)
   have k4 : (W.setCell ⟨w.heap.size + 1 + 1, 0, none⟩ (.int .u64 R)).cell? ⟨w.heap.size + 1 + 1, 0, none⟩ = some (.int .u64 R) := World.cell?_setCell_same' _ _ _ (by rw [i1]; rfl)
   have k5 : (W.setCell ⟨w.heap.size + 1 + 1, 0, none⟩ (.int .u64 R)).frozen? ⟨w.heap.size + 1 + 1, 0, none⟩ = false := by go_simp
   have k6 : (W.setCell ⟨w.heap.size + 1 + 1, 0, none⟩ (.int .u64 R)).cell? ⟨w.heap.size, 0, none⟩ = some (.pointer (some ⟨bf, off, none⟩)) := (World.cell?_of_block (w := W) (Below.heap_setCell W _ _ _ (show w.heap.size ≠ w.heap.size + 1 + 1 by omega))).trans i3
   have k7 : (W.setCell ⟨w.heap.size + 1 + 1, 0, none⟩ (.int .u64 R)).cell? ⟨w.heap.size + 1, 0, none⟩ = some (.int .u64 x) := (World.cell?_of_block (w := W) (Below.heap_setCell W _ _ _ (show w.heap.size + 1 ≠ w.heap.size + 1 + 1 by omega))).trans i5
   exact ⟨by rw [e5]; exact ⟨k1.size, k1.same⟩, k2, ⟨k4.trans (by rw [hnext]), k5, k6, k7⟩, k3.drew⟩
 case done =>
  rintro D zs W hD rfl ⟨⟨i1, i2, i3, i5⟩, i4⟩ hK
  gi_wp2
  refine ⟨by simp, .inl ⟨_, _, rfl, run_takeDeferred hK, ?_⟩⟩
  refine ⟨.int .u64 (dig p b x m), ?_, rfl, i4.trans (belowK_b (w := w) (Nat.le_refl _) _ D _ _ (by simp at hD; omega) hK rfl rfl)⟩
  simp [results, Tryz.f41, go_sem]
  rfl
 case stop =>
  rintro D c pre W hD hsp hf hK
  exact hf.elim
end Go.Proofs.YtmpilgkfbibhlaaGreatDoor
