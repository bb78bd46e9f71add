/-
  A drawn region walked in the text's order, one operation at a time, with what follows under lock.
-/
import Derived.Test.YtladkknbkgomfaaG0Plant
import Derived.Test.YtladkknbkgomfaaProg
import Derived.WalkSpells
import Derived.WalkLawsBesides
import Derived.Deep.MidRow
import Derived.OrdersIn
set_option linter.unusedSimpArgs false
set_option linter.unusedVariables false
namespace Go.Proofs.Ytladkknbkgomfaa
open Go.RowKit
/-- The walk, locked: nothing looks into it. -/
structure WQ (P : Program) (ops : Array Oper) (C : World → Prop) (Q : Act → Prop) (l : List Oper) (a : Act) : Prop where
  out : wpQuiet P ops C Q l a
section
variable {P : Program} {ops : Array Oper} {C : World → Prop} {Q : Act → Prop} {a : Act} {o : Oper} {rest : List Oper} {j d : Nat} {want b : Bool} {v : Value}
theorem WQ.nil (h : Q a) : WQ P ops C Q [] a := ⟨wpQuiet_nil h⟩
theorem WQ.skip (hg : o.guard = some (j, want)) (hd : (ops[j]?).bind (·.dst) = some d) (hv : a.tmps[d]? = some (.bool b)) (hb : (b == want) = false) (h : WQ P ops C Q rest (a.put o.dst undef)) : WQ P ops C Q (o :: rest) a := ⟨by
  have hw : Region.wanted o (yielded ops a.tmps) = false := by
    unfold Region.wanted yielded
    rw [hg]
    dsimp only
    rw [hd, Option.bind_some, hv]
    cases b <;> cases want <;> first | rfl | cases hb
  unfold wpQuiet
  rw [hw]
  exact h.out⟩
theorem WQ.val (hg : o.guard = none) (v : Value) (hv : ∀ w, C w → o.quietAt P a C w v) (h : WQ P ops C Q rest (a.put o.dst v)) : WQ P ops C Q (o :: rest) a := ⟨by
  have hw : Region.wanted o (yielded ops a.tmps) = true := by unfold Region.wanted; rw [hg]
  unfold wpQuiet
  rw [hw]
  exact ⟨v, hv, h.out⟩⟩
theorem WQ.valg (hg : o.guard = some (j, want)) (hd : (ops[j]?).bind (·.dst) = some d) (hv : a.tmps[d]? = some (.bool want)) (v : Value) (hq : ∀ w, C w → o.quietAt P a C w v) (h : WQ P ops C Q rest (a.put o.dst v)) : WQ P ops C Q (o :: rest) a := ⟨by
  have hw : Region.wanted o (yielded ops a.tmps) = true := by
    unfold Region.wanted yielded
    rw [hg]
    dsimp only
    rw [hd, Option.bind_some, hv]
    cases want <;> rfl
  unfold wpQuiet
  rw [hw]
  exact ⟨v, hq, h.out⟩⟩
end
theorem wp_region_lock {P : Program} {id : Nat} {Q : Exit → Act → World → Prop} {a : Act} {w : World} {l : List Oper} (hm : P.follows .mixedOrders = true) (hB : Region.lexB .any l.toArray = true)
    (h : WQ P l.toArray (fun W => ∃ s : WStep w, W = s.1) (fun a' => ∀ w', (∃ s : WStep w, w' = s.1) → Q .normal a' w') l a) : (Code.region id l.toArray true).wp P Q a w := wp_region_step hm hB h.out
/-- Behind the region. -/
theorem WQ.fin {P : Program} {ops : Array Oper} {C : World → Prop} {w : World} {Q : Exit → Act → World → Prop} {a : Act} (h : ∀ W, Below w.heap.size w W → Q .normal a W) : WQ P ops C (fun a' => ∀ w', (∃ s : WStep w, w' = s.1) → Q .normal a' w') [] a :=
  WQ.nil fun w' hw => by obtain ⟨s, rfl⟩ := hw; exact h s.1 s.2
end Go.Proofs.Ytladkknbkgomfaa

/-
  Plants: the small functions of both sides.
-/
set_option linter.unusedSimpArgs false
set_option linter.unusedVariables false
namespace Go.Proofs.Ytladkknbkgomfaa
open Go.RowKit Mr
theorem isQ_ge (x : Int) (h : x ≥ -1099511627776) : isQ x = decide (x ≤ 1099511627776) := by
  unfold isQ most
  by_cases c : x ≤ 1099511627776
  · rw [decide_eq_true c, decide_eq_true (by omega)]
  · rw [decide_eq_false c, decide_eq_false (by omega)]
theorem isQ_lt (x : Int) (h : ¬ x ≥ -1099511627776) : isQ x = false := by
  unfold isQ most
  exact decide_eq_false (by omega)
theorem quantity_any (x : Int) (w : World) : Calls Try.prog 30 #[.int .i64 x] w fun e w' => e = .returned (.bool (isQ x)) ∧ w' = w := by
  by_cases h1 : x ≥ -1099511627776
  · by_cases h2 : x ≤ 1099511627776
    · rw [isQ_ge x h1, decide_eq_true h2]
      go_enter Try.func30, Try.ntmps30
      go_wp2_with fail
      exact bodyPost_ret (v := .bool true) (by simp only [results, Try.results30]; go_simp) rfl ⟨rfl, rfl⟩
    · rw [isQ_ge x h1, decide_eq_false h2]
      go_enter Try.func30, Try.ntmps30
      go_wp2_with fail
      exact bodyPost_ret (v := .bool false) (by simp only [results, Try.results30]; go_simp) rfl ⟨rfl, rfl⟩
  · rw [isQ_lt x h1]
    go_enter Try.func30, Try.ntmps30
    go_wp2_with fail
    exact bodyPost_ret (v := .bool false) (by simp only [results, Try.results30]; go_simp) rfl ⟨rfl, rfl⟩
theorem Is_any (x : Int) (w : World) : Calls Try.prog 44 #[.int .i64 x] w fun e w' => e = .returned (.bool (isQ x)) ∧ w' = w := by
  by_cases h1 : x ≥ -1099511627776
  · by_cases h2 : x ≤ 1099511627776
    · rw [isQ_ge x h1, decide_eq_true h2]
      go_enter Try.func44, Try.ntmps44
      go_wp2_with fail
      exact bodyPost_ret (v := .bool true) (by simp only [results, Try.results44]; go_simp) rfl ⟨rfl, rfl⟩
    · rw [isQ_ge x h1, decide_eq_false h2]
      go_enter Try.func44, Try.ntmps44
      go_wp2_with fail
      exact bodyPost_ret (v := .bool false) (by simp only [results, Try.results44]; go_simp) rfl ⟨rfl, rfl⟩
  · rw [isQ_lt x h1]
    go_enter Try.func44, Try.ntmps44
    go_wp2_with fail
    exact bodyPost_ret (v := .bool false) (by simp only [results, Try.results44]; go_simp) rfl ⟨rfl, rfl⟩
def inB (x lo hi : Int) : Bool := decide (x ≥ lo) && decide (x ≤ hi)
theorem Rin_any (x lo hi : Int) (w : World) : Calls Try.prog 22 #[.int .i64 x, .int .i64 lo, .int .i64 hi] w fun e w' => e = .returned (.bool (inB x lo hi)) ∧ w' = w := by
  unfold inB
  by_cases h1 : x ≥ lo
  · by_cases h2 : x ≤ hi
    · rw [decide_eq_true h1, decide_eq_true h2]
      go_enter Try.func22, Try.ntmps22
      go_wp2_with fail
      exact bodyPost_ret (v := .bool true) (by simp only [results, Try.results22]; go_simp) rfl ⟨rfl, rfl⟩
    · rw [decide_eq_true h1, decide_eq_false h2]
      go_enter Try.func22, Try.ntmps22
      go_wp2_with fail
      exact bodyPost_ret (v := .bool false) (by simp only [results, Try.results22]; go_simp) rfl ⟨rfl, rfl⟩
  · rw [decide_eq_false h1]
    go_enter Try.func22, Try.ntmps22
    go_wp2_with fail
    exact bodyPost_ret (v := .bool false) (by simp only [results, Try.results22]; go_simp) rfl ⟨rfl, rfl⟩
theorem valid_any {B : Nat} {w : World} (x0 : w.cell? ⟨B, 0, none⟩ = some (.bool true)) : Calls Try.prog 23 #[.pointer (some ⟨B, 0, none⟩)] w fun e w' => e = .returned (.bool true) ∧ w' = w := by
  go_enter Try.func23, Try.ntmps23
  go_wp2_with fail
  exact bodyPost_ret (v := .bool true) (by simp only [results, Try.results23]; go_simp) rfl ⟨rfl, rfl⟩
end Go.Proofs.Ytladkknbkgomfaa

/-
  Blocks whose cells are told by a function; what only certain blocks have turned.
-/
set_option linter.unusedSimpArgs false
set_option linter.unusedVariables false
namespace Go.Proofs.Ytladkknbkgomfaa
open Go.RowKit Mr
def fA (n : Nat) (f : Nat → Value) : Array Value := ((List.range n).map f).toArray
def fO (n : Nat) (f : Nat → Value) (T : TypeId) : Obj := .cells (fA n f) T (0, 0)
theorem fA_size (n : Nat) (f : Nat → Value) : (fA n f).size = n := by unfold fA; simp
theorem fA_at {n k : Nat} {f : Nat → Value} (h : k < n) : (fA n f)[k]? = some (f k) := by
  unfold fA
  rw [List.getElem?_toArray, List.getElem?_map, List.getElem?_range h]; rfl
theorem fA_ext {n : Nat} {f g : Nat → Value} (h : ∀ k, k < n → f k = g k) : fA n f = fA n g := by
  unfold fA
  rw [List.map_congr_left fun k hk => h k (List.mem_range.1 hk)]
theorem fO_ext {n : Nat} {f g : Nat → Value} {T : TypeId} (h : ∀ k, k < n → f k = g k) : fO n f T = fO n g T := by
  unfold fO; rw [fA_ext h]
theorem fA_set {n k : Nat} {f : Nat → Value} {v : Value} : (fA n f).setIfInBounds k v = fA n (updF f k v) := by
  refine Array.ext (by rw [Array.size_setIfInBounds, fA_size, fA_size]) fun i h1 h2 => ?_
  have hi : i < n := by rw [fA_size] at h2; exact h2
  have e2 := fA_at (f := updF f k v) hi
  rw [Array.getElem?_eq_getElem h2] at e2
  rw [Option.some.inj e2, Array.getElem_setIfInBounds (by rw [fA_size]; exact hi)]
  by_cases c : k = i
  · subst c; rw [if_pos rfl, updF_at]
  · rw [if_neg c, updF_ne (Ne.symm c)]
    have e1 := fA_at (f := f) hi
    rw [Array.getElem?_eq_getElem (by rw [fA_size]; exact hi)] at e1
    exact Option.some.inj e1
section
variable {W w2 : World} {b n k : Nat} {f g : Nat → Value} {T : TypeId} {v : Value}
theorem fb_cell (h : W.heap[b]? = some (fO n f T)) (hk : k < n) : W.cell? ⟨b, k, none⟩ = some (f k) := blk_cell h (fA_at hk)
theorem fb_free (h : W.heap[b]? = some (fO n f T)) : W.frozen? ⟨b, k, none⟩ = false := blk_free h
theorem fb_set (h : W.heap[b]? = some (fO n f T)) : (W.setCell ⟨b, k, none⟩ v).heap[b]? = some (fO n (updF f k v) T) := (blk_set h).trans (by rw [fA_set]; rfl)
theorem fb_ext (h : W.heap[b]? = some (fO n f T)) (he : ∀ k, k < n → f k = g k) : W.heap[b]? = some (fO n g T) := h.trans (by rw [fO_ext he])
theorem fb_sets : ∀ (vs : List Value) (o : Nat) {W : World} {f : Nat → Value}, W.heap[b]? = some (fO n f T) → (W.setCells b o vs).heap[b]? = some (fO n (fun k => if o ≤ k ∧ k < o + vs.length then vs.getD (k - o) undef else f k) T)
  | [], o, W, f, h => by
    refine fb_ext h fun k _ => ?_
    rw [if_neg (by simp)]
  | x :: xs, o, W, f, h => by
    have h1 := fb_set (k := o) (v := x) h
    have h2 := fb_sets xs (o + 1) h1
    refine fb_ext h2 fun k _ => ?_
    simp only [List.length_cons]
    by_cases c : k = o
    · subst c
      rw [if_neg (by omega), updF_at, if_pos (by omega), Nat.sub_self]; rfl
    · rw [updF_ne c]
      by_cases d : o + 1 ≤ k ∧ k < o + 1 + xs.length
      · rw [if_pos d, if_pos (by omega), show k - o = (k - (o + 1)) + 1 by omega]; rfl
      · rw [if_neg d, if_neg (by omega)]
theorem fb_sets_all {vs : List Value} (h : W.heap[b]? = some (fO n f T)) (hl : vs.length = n) : (W.setCells b 0 vs).heap[b]? = some (fO n (fun k => vs.getD k undef) T) :=
  fb_ext (fb_sets vs 0 h) fun k hk => by rw [if_pos (by omega)]; rfl
theorem fb_there (h : W.heap[b]? = some (fO n f T)) : W.there b 0 n := fun j hj => by
  have := fb_cell h hj
  rw [Nat.zero_add]
  exact ⟨by rw [this]; rfl, fb_free h⟩
theorem fA_list (n : Nat) (f : Nat → Value) : (fA n f).toList = (List.range n).map f := by unfold fA; rfl
theorem fb_range (h : W.heap[b]? = some (fO n f T)) : W.rangeAt b 0 (fA n f).toList := fun j v hv => by
  have hj : j < n := by
    have := (List.getElem?_eq_some_iff.1 hv).1
    rw [fA_list] at this; simpa using this
  have := fb_cell h hj
  rw [Nat.zero_add, this]
  rw [fA_list, List.getElem?_map, List.getElem?_range hj] at hv
  exact hv
theorem fA_one (h : ∀ k, k < n → (f k).oneCell' = true) : (fA n f).all (·.oneCell') = true := by
  unfold fA
  refine all_oneCell_toArray fun v hv => ?_
  obtain ⟨k, hk, rfl⟩ := List.mem_map.1 hv
  exact h k (List.mem_range.1 hk)
end
theorem bSetCells {N b : Nat} {w : World} : ∀ (vs : List Value) (o : Nat) {W : World}, Below N w W → N ≤ b → Below N w (W.setCells b o vs)
  | [], _, _, h, _ => h
  | v :: vs, o, _, h, hb => bSetCells vs (o + 1) (h.setCell (p := ⟨b, o, none⟩) hb v) hb
theorem setCells_other {b g : Nat} {ob : Obj} : ∀ (vs : List Value) (o : Nat) {W : World}, W.heap[g]? = some ob → g ≠ b → (W.setCells b o vs).heap[g]? = some ob
  | [], _, _, h, _ => h
  | v :: vs, o, _, h, hb => setCells_other vs (o + 1) (blk_set_other h hb) hb
theorem setCells_size {b : Nat} : ∀ (vs : List Value) (o : Nat) {W : World}, (W.setCells b o vs).heap.size = W.heap.size
  | [], _, _ => rfl
  | v :: vs, o, W => by
    show ((W.setCell ⟨b, o, none⟩ v).setCells b (o + 1) vs).heap.size = _
    rw [setCells_size vs (o + 1)]; simp
theorem setCells_at : ∀ (vs : List Value) (o : Nat) {W : World} {r : Nat} {cs : Array Value} {T : TypeId} {fr : Nat × Nat}, W.heap[r]? = some (.cells cs T fr) → o + vs.length ≤ cs.size → ∃ cs' : Array Value, (W.setCells r o vs).heap[r]? = some (.cells cs' T fr) ∧ cs'.size = cs.size ∧ ∀ j, cs'[j]? = if o ≤ j ∧ j < o + vs.length then vs[j - o]? else cs[j]?
  | [], o, W, r, cs, T, fr, h, hl => ⟨cs, h, rfl, fun j => by rw [if_neg (fun c => by have c2 := c.2; simp at c2; omega)]⟩
  | v :: vs, o, W, r, cs, T, fr, h, hl => by
    have h1 := blk_set (o := o) (v := v) h
    rw [List.length_cons] at hl
    obtain ⟨cs', q1, q2, q3⟩ := setCells_at vs (o + 1) h1 (by simp; omega)
    refine ⟨cs', q1, by simpa using q2, fun j => ?_⟩
    rw [q3 j, List.length_cons]
    by_cases c : o + 1 ≤ j ∧ j < o + 1 + vs.length
    · rw [if_pos c, if_pos (by omega), show j - o = (j - (o + 1)) + 1 by omega, List.getElem?_cons_succ]
    · rw [if_neg c]
      by_cases c2 : o = j
      · subst c2
        rw [if_pos (by omega), Nat.sub_self, Array.getElem?_setIfInBounds_self_of_lt (by omega)]
        rfl
      · rw [if_neg (by omega), Array.getElem?_setIfInBounds_ne c2]
theorem setCells_all {W : World} {r : Nat} {cs : Array Value} {T : TypeId} {fr : Nat × Nat} {vs : List Value} (h : W.heap[r]? = some (.cells cs T fr)) (hl : vs.length = cs.size) : (W.setCells r 0 vs).heap[r]? = some (.cells vs.toArray T fr) := by
  obtain ⟨cs', q1, q2, q3⟩ := setCells_at vs 0 h (by omega)
  rw [q1]
  congr 2
  refine Array.ext_getElem? fun j => ?_
  rw [q3 j]
  by_cases c : j < vs.length
  · rw [if_pos (by omega), Nat.sub_zero, List.getElem?_toArray]
  · rw [if_neg (by omega), Array.getElem?_eq_none (xs := cs) (by omega)]
    symm
    exact Array.getElem?_eq_none (by simp; omega)
theorem there_new {w : World} {cs : Array Value} {T : TypeId} {n : Nat} (h : cs.size = n) : (w.alloc (.cells cs T)).there w.heap.size 0 n := fun j hj => by
  rw [Nat.zero_add]
  have hb := blk_new w (.cells cs T)
  have hv : cs[j]? = some (cs[j]'(by omega)) := Array.getElem?_eq_getElem (by omega)
  exact ⟨by rw [blk_cell hb hv]; rfl, blk_free hb⟩
/-- Only the blocks of S have turned, and new ones. -/
structure KeepX (S : Nat → Prop) (w W : World) : Prop where
  os : W.os = w.os
  tape : W.tape = w.tape
  output : W.output = w.output
  size : w.heap.size ≤ W.heap.size
  block : ∀ k, k < w.heap.size → ¬ S k → W.heap[k]? = w.heap[k]?
section
variable {S S' : Nat → Prop} {w W w2 : World}
theorem KeepX.of_below (h : Below w.heap.size w W) : KeepX S w W := ⟨h.os, h.tape, h.output, h.size, fun k hk _ => h.block k hk⟩
theorem KeepX.refl : KeepX S w w := ⟨rfl, rfl, rfl, Nat.le_refl _, fun _ _ _ => rfl⟩
theorem KeepX.step (h : KeepX S w W) (hb : Below W.heap.size W w2) : KeepX S w w2 :=
  ⟨hb.os.trans h.os, hb.tape.trans h.tape, hb.output.trans h.output, Nat.le_trans h.size hb.size, fun k hk hn => (hb.block k (Nat.lt_of_lt_of_le hk h.size)).trans (h.block k hk hn)⟩
theorem KeepX.set {P o : Nat} {u : Value} (h : KeepX S w W) (hP : S P ∨ w.heap.size ≤ P) : KeepX S w (W.setCell ⟨P, o, none⟩ u) :=
  ⟨h.os, h.tape, h.output, by simpa using h.size, fun k hk hn => by
    have hne : k ≠ P := fun e => by subst e; rcases hP with c | c; exact hn c; omega
    rw [← h.block k hk hn]
    cases hx : W.heap[k]? with
    | some x => exact blk_set_other hx hne
    | none =>
      have := h.size
      rw [Array.getElem?_eq_none_iff] at hx
      omega⟩
theorem KeepX.mono (h : KeepX S w W) (hS : ∀ k, k < w.heap.size → S k → S' k) : KeepX S' w W := ⟨h.os, h.tape, h.output, h.size, fun k hk hn => h.block k hk fun c => hn (hS k hk c)⟩
theorem KeepX.trans (h : KeepX S w W) (h2 : KeepX S' W w2) (hS : ∀ k, k < w.heap.size → S' k → S k) : KeepX S w w2 :=
  ⟨h2.os.trans h.os, h2.tape.trans h.tape, h2.output.trans h.output, Nat.le_trans h.size h2.size, fun k hk hn => (h2.block k (Nat.lt_of_lt_of_le hk h.size) fun c => hn (hS k hk c)).trans (h.block k hk hn)⟩
theorem KeepX.below {w0 : World} (h : KeepX S w W) (hb : Below w0.heap.size w0 w) (hS : ∀ k, k < w0.heap.size → ¬ S k) : Below w0.heap.size w0 W :=
  ⟨h.os.trans hb.os, h.tape.trans hb.tape, h.output.trans hb.output, Nat.le_trans hb.size h.size, fun k hk => (h.block k (Nat.lt_of_lt_of_le hk hb.size) (hS k hk)).trans (hb.block k hk)⟩
theorem KeepX.blk {b : Nat} {x : Obj} (h : KeepX S w W) (hb : w.heap[b]? = some x) (hn : ¬ S b) : W.heap[b]? = some x := (h.block b (blk_lt hb) hn).trans hb
theorem KeepX.cell {b o : Nat} {v : Value} (h : KeepX S w W) (hb : w.cell? ⟨b, o, none⟩ = some v) (hn : ¬ S b) : W.cell? ⟨b, o, none⟩ = some v := by
  have hl := cell_lt hb
  unfold World.cell? at hb ⊢
  rw [h.block b hl hn]; exact hb
end
end Go.Proofs.Ytladkknbkgomfaa

/-
  A region that draws its order, by one condition on what has been carried out: each operation is walked once, from whatever state meets the condition.
-/
set_option linter.unusedSimpArgs false
set_option linter.unusedVariables false
namespace Go.Proofs.Ytladkknbkgomfaa
open Go.RowKit

section
variable {P : Program} {ops : Array Oper} {Q : Exit → Act → World → Prop}

/-- Every operation waits for earlier ones alone. -/
def early (ops : Array Oper) : Bool := (List.range ops.size).all fun i => ((ops[i]?).map (·.after.all fun e => !Region.binds .any e || decide (e.on < i))).getD true

theorem all_listed {l : Array Bool} (hsz : l.size = ops.size) (he : early ops = true) (h : Region.ready .any ops l = []) : ∀ i, i < ops.size → l.getD i true = true := by
  intro i
  induction i using Nat.strongRecOn with
  | _ i ih =>
    intro hi
    cases hl : l.getD i true with
    | true => rfl
    | false =>
      exfalso
      have hr : i ∈ Region.ready .any ops l := by
        unfold Region.ready
        rw [List.mem_filter]
        refine ⟨List.mem_range.2 hi, ?_⟩
        have ho : ops[i]? = some ops[i] := Array.getElem?_eq_getElem hi
        rw [hl, ho]
        simp only [Bool.not_false, Bool.true_and, Option.map_some, Option.getD_some]
        rw [Array.all_eq_true']
        intro e hem
        have h1 := List.all_eq_true.1 he i (List.mem_range.2 hi)
        rw [ho] at h1
        simp only [Option.map_some, Option.getD_some] at h1
        rw [Array.all_eq_true'] at h1
        have h2 := h1 e hem
        cases hb : Region.binds .any e with
        | false => simp
        | true =>
          rw [hb] at h2
          simp at h2
          have h3 := ih e.on h2 (by omega)
          have : l.getD e.on false = true := by
            rw [Array.getD_eq_getD_getElem?] at h3 ⊢
            cases hx : l[e.on]? with
            | some x => rw [hx] at h3; simpa using h3
            | none =>
              exfalso
              rw [Array.getElem?_eq_none_iff] at hx
              omega
          simp [this]
      rw [h] at hr
      exact absurd hr (by simp)

/-- How many are still to come. -/
def left (l : Array Bool) : Nat := l.toList.count false
theorem left_set {l : Array Bool} {i : Nat} (hi : i < l.size) (h : l.getD i true = false) : left (l.setIfInBounds i true) + 1 = left l := by
  obtain ⟨l⟩ := l
  simp only [left, List.setIfInBounds_toArray]
  have hi' : i < l.length := by simpa using hi
  have h' : l[i] = false := by
    rw [Array.getD_eq_getD_getElem?] at h
    simpa [hi'] using h
  rw [List.count_set hi']
  have hc : 0 < List.count false l := List.count_pos_iff.2 (h' ▸ List.getElem_mem hi')
  simp [h']
  omega
theorem ready_iff {md : Region.Mode} {l : Array Bool} {i : Nat} (h : i ∈ Region.ready md ops l) :
    i < ops.size ∧ l.getD i true = false ∧ ∀ o, ops[i]? = some o → (o.after.all fun e => !Region.binds md e || l.getD e.on false) = true := by
  unfold Region.ready at h
  rw [List.mem_filter] at h
  obtain ⟨h1, h2⟩ := h
  rw [Bool.and_eq_true] at h2
  refine ⟨List.mem_range.1 h1, by simpa using h2.1, fun o ho => ?_⟩
  have h3 := h2.2
  rw [ho] at h3
  simpa using h3

theorem any_inv (he : early ops = true) (I : Array Bool → Act → World → Prop) (hsz : ∀ l a w, I l a w → l.size = ops.size)
    (step : ∀ i o, ops[i]? = some o → ∀ l a w, I l a w → l.getD i true = false → (o.after.all fun e => !Region.binds .any e || l.getD e.on false) = true → wpOp P ops Q i (I (l.setIfInBounds i true)) a w)
    (done : ∀ l a w, I l a w → (∀ i, i < ops.size → l.getD i true = true) → Q .normal a w) :
    ∀ fuel l a w, I l a w → left l ≤ fuel → wpAny P .any ops Q fuel l a w := by
  intro fuel
  induction fuel with
  | zero =>
    intro l a w hI hf
    have hr : Region.ready .any ops l = [] := by
      rw [List.eq_nil_iff_forall_not_mem]
      intro i hi
      obtain ⟨h1, h2, _⟩ := ready_iff hi
      have := left_set (by rw [hsz l a w hI]; exact h1) h2
      omega
    exact ⟨hr, done l a w hI (all_listed (hsz l a w hI) he hr)⟩
  | succ n ih =>
    intro l a w hI hf
    refine ⟨fun hr => done l a w hI (all_listed (hsz l a w hI) he hr), fun i hi => ?_⟩
    obtain ⟨h1, h2, h3⟩ := ready_iff hi
    have ho : ops[i]? = some ops[i] := Array.getElem?_eq_getElem h1
    have hl := left_set (by rw [hsz l a w hI]; exact h1) h2
    exact wpOp_mono (fun a' w' h' => ih _ a' w' h' (by omega)) (step i _ ho l a w hI h2 (h3 _ ho))

theorem left_new (n : Nat) : left (Array.replicate n false) = n := by simp [left]

/-- THE RULE: a condition I on which operations have been carried out, the frame and the world. -/
theorem region_inv {id : Nat} {a : Act} {w : World} (hm : P.follows .mixedOrders = true) (he : early ops = true) (I : Array Bool → Act → World → Prop) (h0 : I (Array.replicate ops.size false) a w.drew) (hsz : ∀ l a w, I l a w → l.size = ops.size)
    (step : ∀ i o, ops[i]? = some o → ∀ l a w, I l a w → l.getD i true = false → (o.after.all fun e => !Region.binds .any e || l.getD e.on false) = true → wpOp P ops Q i (I (l.setIfInBounds i true)) a w)
    (done : ∀ l a w, I l a w → (∀ i, i < ops.size → l.getD i true = true) → Q .normal a w) : (Code.region id ops true).wp P Q a w :=
  wp_region_any hm (any_inv he I hsz step done ops.size _ _ _ h0 (by rw [left_new]; exact Nat.le_refl _))

theorem wpOp_plain {i : Nat} {o : Oper} {K : Act → World → Prop} {a : Act} {w : World} (hi : ops[i]? = some o) (hg : o.guard = none) (h : o.wp P a w K Q) : wpOp P ops Q i K a w := by
  unfold wpOp
  rw [hi]
  simp only [Region.wanted, hg, if_true]
  exact .inl h

end
end Go.Proofs.Ytladkknbkgomfaa

/-
  The rule of XInv for frames that are written out: what a region's operations have left in their slots; boxes that it makes.
-/
set_option linter.unusedSimpArgs false
set_option linter.unusedVariables false
namespace Go.Proofs.Ytladkknbkgomfaa
open Go.RowKit

/-- A frame with some slots written. -/
def updAll (a : Act) : List (Nat × Value) → Act
  | [] => a
  | (d, v) :: l => (updAll a l).put (some d) v

/-- A box that a region makes (b: it is made; d: it is filled). -/
def BoxF (b d : Bool) (s : Value) (base : Nat) (z c : Array Value) (T : TypeId) (W : World) : Prop :=
  b = true → ∃ r, s = .pointer (some ⟨r, 0, none⟩) ∧ base ≤ r ∧ W.heap[r]? = some (.cells (if d = true then c else z) T (0, 0))
theorem BoxF.step {b d : Bool} {s : Value} {base : Nat} {z c : Array Value} {T : TypeId} {W W2 : World} (h : BoxF b d s base z c T W) (hb : Below W.heap.size W W2) : BoxF b d s base z c T W2 := fun e => by
  obtain ⟨r, h1, h2, h3⟩ := h e
  exact ⟨r, h1, h2, blk_step h3 hb⟩
theorem BoxF.no {d : Bool} {s : Value} {base : Nat} {z c : Array Value} {T : TypeId} {W : World} : BoxF false d s base z c T W := fun e => by cases e
theorem BoxF.new {base : Nat} {z c : Array Value} {T : TypeId} {W : World} (hb : base ≤ W.heap.size) : BoxF true false (.pointer (some ⟨W.heap.size, 0, none⟩)) base z c T (W.alloc (.cells z T)) := fun _ =>
  ⟨_, rfl, hb, by simpa using blk_new W (.cells z T)⟩
theorem BoxF.setFar {b d : Bool} {q : Nat} {s : Value} {base : Nat} {z c : Array Value} {T : TypeId} {W : World} (h : BoxF b d s base z c T W) (hne : b = true → s ≠ .pointer (some ⟨q, 0, none⟩)) (o : Nat) (v : Value) : BoxF b d s base z c T (W.setCell ⟨q, o, none⟩ v) := fun e => by
  obtain ⟨r, h1, h2, h3⟩ := h e
  refine ⟨r, h1, h2, blk_set_other h3 (fun c => ?_)⟩
  exact hne e (by rw [h1]; simp at c; rw [c])
/-- Two boxes of one region are two. -/
def Apart (b b' : Bool) (s s' : Value) : Prop := b = true → b' = true → s ≠ s'
theorem Apart.no {b' : Bool} {s s' : Value} : Apart false b' s s' := fun e => by cases e
theorem Apart.no' {b : Bool} {s s' : Value} : Apart b false s s' := fun _ e => by cases e
theorem Apart.symm {b b' : Bool} {s s' : Value} (h : Apart b b' s s') : Apart b' b s' s := fun e e' c => h e' e c.symm
theorem Apart.new {b' d' : Bool} {s' : Value} {base : Nat} {z c : Array Value} {T : TypeId} {W : World} (h : BoxF b' d' s' base z c T W) : Apart true b' (.pointer (some ⟨W.heap.size, 0, none⟩)) s' := fun _ e c => by
  obtain ⟨r, h1, h2, h3⟩ := h e
  have := blk_lt h3
  rw [h1] at c
  simp at c

section
variable {P : Program} {ops : Array Oper} {Q : Exit → Act → World → Prop}
theorem step_to {i : Nat} {K : Act → World → Prop} {a : Act} {w : World} {a' : Act} {w' : World} (h : ∀ K' : Act → World → Prop, K' a' w' → wpOp P ops Q i K' a w) (hk : K a' w') : wpOp P ops Q i K a w := h K hk
theorem step_ex {i : Nat} {K : Act → World → Prop} {a : Act} {w : World} (C : Act → World → Prop) (h : ∀ K' : Act → World → Prop, (∀ a' w', C a' w' → K' a' w') → wpOp P ops Q i K' a w) (hk : ∀ a' w', C a' w' → K a' w') : wpOp P ops Q i K a w := h K hk
end

end Go.Proofs.Ytladkknbkgomfaa

/-
  Inside a fence: a region that draws its order, of operations that read, and one call, and one operation behind it: one walk of each operation, from whatever others have been carried out.
-/
set_option linter.unusedSimpArgs false
set_option linter.unusedVariables false
namespace Go.Proofs.Ytladkknbkgomfaa
open Go.RowKit

section
variable {F : Fence} {n : Nat} {P : Program} {ops : Array Oper} {Q : Exit → Act → World → Prop}

/-- What an operation waits for. -/
def waits (ops : Array Oper) (i : Nat) : List Nat := ((ops[i]?).map fun o => (o.after.toList.filter (Region.binds .any)).map (·.on)).getD []
def ancs (ops : Array Oper) : Nat → Nat → List Nat
  | 0, _ => []
  | f + 1, i => waits ops i ++ (waits ops i).flatMap (ancs ops f)
def Shut (ops : Array Oper) (l : Array Bool) : Prop := ∀ i, l.getD i false = true → ∀ j ∈ waits ops i, l.getD j false = true
theorem Shut.anc {l : Array Bool} (h : Shut ops l) : ∀ f i, l.getD i false = true → ∀ j ∈ ancs ops f i, l.getD j false = true := by
  intro f
  induction f with
  | zero => intro i _ j hj; cases hj
  | succ f ih =>
    intro i hi j hj
    rcases List.mem_append.1 hj with hj | hj
    · exact h i hi j hj
    · obtain ⟨k, hk, hkj⟩ := List.mem_flatMap.1 hj
      exact ih k (h i hi k hk) j hkj
theorem waits_ok {l : Array Bool} {i : Nat} {o : Oper} (ho : ops[i]? = some o) (h : (o.after.all fun e => !Region.binds .any e || l.getD e.on false) = true) : ∀ j ∈ waits ops i, l.getD j false = true := by
  intro j hj
  unfold waits at hj
  rw [ho] at hj
  simp only [Option.map_some, Option.getD_some] at hj
  obtain ⟨e, he, rfl⟩ := List.mem_map.1 hj
  obtain ⟨he1, he2⟩ := List.mem_filter.1 he
  rw [Array.all_eq_true'] at h
  have := h e (by simpa using he1)
  rw [he2] at this
  simpa using this
theorem getD_tf {l : Array Bool} {i : Nat} (h : l.getD i true = false) : l.getD i false = false := by
  rw [Array.getD_eq_getD_getElem?] at h ⊢
  cases hx : l[i]? with
  | none => rw [hx] at h; simp at h
  | some x => rw [hx] at h; simpa using h
theorem getD_ft {l : Array Bool} {i : Nat} (hi : i < l.size) (h : l.getD i false = true) : l.getD i true = true := by
  rw [Array.getD_eq_getD_getElem?] at h ⊢
  rw [Array.getElem?_eq_getElem hi] at h ⊢
  simpa using h
theorem getD_tt {l : Array Bool} {i : Nat} (hi : i < l.size) (h : l.getD i true = true) : l.getD i false = true := by
  rw [Array.getD_eq_getD_getElem?] at h ⊢
  rw [Array.getElem?_eq_getElem hi] at h ⊢
  simpa using h
theorem getD_set1 {l : Array Bool} {i j : Nat} {b : Bool} (hi : i < l.size) : (l.setIfInBounds i true).getD j b = if i = j then true else l.getD j b := by
  rw [Array.getD_eq_getD_getElem?, Array.getD_eq_getD_getElem?, Array.getElem?_setIfInBounds]
  split
  · simp [hi]
  · rfl
theorem Shut.set {l : Array Bool} {i : Nat} (h : Shut ops l) (hi : i < l.size) (hw : ∀ j ∈ waits ops i, l.getD j false = true) : Shut ops (l.setIfInBounds i true) := by
  intro k hk j hj
  rw [getD_set1 hi] at hk ⊢
  split
  · rfl
  · by_cases e : i = k
    · subst e; exact hw j hj
    · rw [if_neg e] at hk
      exact h k hk j hj

theorem any_invIn (he : early ops = true) (I : Array Bool → Act → World → Prop) (hsz : ∀ l a w, I l a w → l.size = ops.size)
    (step : ∀ i o, ops[i]? = some o → ∀ l a w, I l a w → l.getD i true = false → (o.after.all fun e => !Region.binds .any e || l.getD e.on false) = true → wpOpIn F n P ops Q i (I (l.setIfInBounds i true)) a w)
    (done : ∀ l a w, I l a w → (∀ i, i < ops.size → l.getD i true = true) → Q .normal a w) :
    ∀ fuel l a w, I l a w → left l ≤ fuel → wpAnyIn F n P .any ops Q fuel l a w := by
  intro fuel
  induction fuel with
  | zero =>
    intro l a w hI hf
    have hr : Region.ready .any ops l = [] := by
      rw [List.eq_nil_iff_forall_not_mem]
      intro i hi
      obtain ⟨h1, h2, _⟩ := ready_iff hi
      have := left_set (by rw [hsz l a w hI]; exact h1) h2
      omega
    exact ⟨hr, done l a w hI (all_listed (hsz l a w hI) he hr)⟩
  | succ n ih =>
    intro l a w hI hf
    refine ⟨fun hr => done l a w hI (all_listed (hsz l a w hI) he hr), fun i hi => ?_⟩
    obtain ⟨h1, h2, h3⟩ := ready_iff hi
    have ho : ops[i]? = some ops[i] := Array.getElem?_eq_getElem h1
    have hl := left_set (by rw [hsz l a w hI]; exact h1) h2
    exact wpOpIn_mono (fun a' w' h' => ih _ a' w' h' (by omega)) (step i _ ho l a w hI h2 (h3 _ ho))

/-- THE RULE: N operations that read alone; the call; what stands behind it. -/
theorem regionIn_head {id : Nat} {a : Act} {w : World} (N : Nat) (hm : P.follows .mixedOrders = true) (he : early ops = true) (hs0 : ops.size = N + 2)
    (hA : ((List.range N).all fun j => (ancs ops 6 N).contains j) = true) (hB : (waits ops (N + 1)).contains N = true) (I : Array Bool → Act → Prop) (h0 : I (Array.replicate ops.size false) a)
    (step : ∀ i o, i < N → ops[i]? = some o → ∀ l a, I l a → l.size = ops.size → l.getD i true = false → (o.after.all fun e => !Region.binds .any e || l.getD e.on false) = true →
      wpOpIn F n P ops Q i (fun a' w' => w' = w.drew ∧ I (l.setIfInBounds i true) a') a w.drew)
    (tail : ∀ l a, I l a → l.size = ops.size → (∀ j, j < N → l.getD j true = true) → wpOpIn F n P ops Q N (fun a1 w1 => wpOpIn F n P ops Q (N + 1) (fun a2 w2 => Q .normal a2 w2) a1 w1) a w.drew) :
    (Code.region id ops true).wpIn F n P Q a w := by
  have hA' : ∀ j, j < N → j ∈ ancs ops 6 N := fun j hj => by simpa using List.all_eq_true.1 hA j (List.mem_range.2 hj)
  have hB' : N ∈ waits ops (N + 1) := by simpa using hB
  refine wpIn_region_any hm (any_invIn he (fun l a w' => l.size = ops.size ∧ Shut ops l ∧ ((l.getD N true = false ∧ l.getD (N + 1) true = false ∧ w' = w.drew ∧ I l a) ∨
    (l.getD N false = true ∧ l.getD (N + 1) true = false ∧ wpOpIn F n P ops Q (N + 1) (fun a2 w2 => Q .normal a2 w2) a w') ∨ (l.getD N false = true ∧ l.getD (N + 1) false = true ∧ Q .normal a w'))) (fun l a w h => h.1) ?_ ?_ ops.size _ _ _ ?_ (by rw [left_new]; exact Nat.le_refl _))
  · rintro i o ho l a w' ⟨hs, hS, hJ⟩ hl hd
    have hio : i < ops.size := (Array.getElem?_eq_some_iff.1 ho).1
    have hil : i < l.size := by rw [hs]; exact hio
    have hw := waits_ok ho hd
    have hS2 := hS.set hil hw
    have hs2 : (l.setIfInBounds i true).size = ops.size := by simpa using hs
    have hi3 : i < N ∨ i = N ∨ i = N + 1 := by omega
    rcases hi3 with hi | rfl | rfl
    · rcases hJ with ⟨j1, j2, rfl, j3⟩ | ⟨j1, _⟩ | ⟨j1, _⟩
      · refine wpOpIn_mono ?_ (step i o hi ho l a j3 hs hl hd)
        rintro a' w'' ⟨rfl, h⟩
        refine ⟨hs2, hS2, Or.inl ⟨?_, ?_, rfl, h⟩⟩
        · rw [getD_set1 hil, if_neg (by omega)]; exact j1
        · rw [getD_set1 hil, if_neg (by omega)]; exact j2
      · exact absurd (hS.anc 6 N j1 i (hA' i hi)) (by rw [getD_tf hl]; decide)
      · exact absurd (hS.anc 6 N j1 i (hA' i hi)) (by rw [getD_tf hl]; decide)
    · rcases hJ with ⟨j1, j2, rfl, j3⟩ | ⟨j1, _⟩ | ⟨j1, _⟩
      · have hall : ∀ j, j < i → l.getD j true = true := by
          intro j hj
          have := hS2.anc 6 i (by rw [getD_set1 hil, if_pos rfl]) j (hA' j hj)
          rw [getD_set1 hil, if_neg (by omega)] at this
          exact getD_ft (by omega) this
        refine wpOpIn_mono ?_ (tail l a j3 hs hall)
        intro a' w'' h
        refine ⟨hs2, hS2, Or.inr (Or.inl ⟨?_, ?_, h⟩)⟩
        · rw [getD_set1 hil, if_pos rfl]
        · rw [getD_set1 hil, if_neg (by omega)]; exact j2
      · exact absurd j1 (by rw [getD_tf hl]; decide)
      · exact absurd j1 (by rw [getD_tf hl]; decide)
    · have hN := hw N hB'
      rcases hJ with ⟨j1, _⟩ | ⟨j1, j2, j3⟩ | ⟨_, j1, _⟩
      · exact absurd hN (by rw [getD_tf j1]; decide)
      · refine wpOpIn_mono ?_ j3
        intro a' w'' h
        refine ⟨hs2, hS2, Or.inr (Or.inr ⟨?_, ?_, h⟩)⟩
        · rw [getD_set1 hil, if_neg (by omega)]; exact j1
        · rw [getD_set1 hil, if_pos rfl]
      · exact absurd j1 (by rw [getD_tf hl]; decide)
  · rintro l a w' ⟨hs, hS, hJ⟩ hall
    rcases hJ with ⟨j1, _⟩ | ⟨_, j1, _⟩ | ⟨_, _, j⟩
    · rw [hall N (by omega)] at j1; cases j1
    · rw [hall (N + 1) (by omega)] at j1; cases j1
    · exact j
  · refine ⟨by simp, fun i hi => ?_, Or.inl ⟨?_, ?_, rfl, h0⟩⟩
    · rw [Array.getD_eq_getD_getElem?] at hi
      by_cases h : i < ops.size
      · simp [h] at hi
      · simp [h] at hi
    · simp [Array.getD_eq_getD_getElem?, hs0]
    · simp [Array.getD_eq_getD_getElem?, hs0]

theorem wpOpIn_plain {i : Nat} {o : Oper} {K : Act → World → Prop} {a : Act} {w : World} (hi : ops[i]? = some o) (hg : o.guard = none) (h : o.wpIn F n P a w K Q) : wpOpIn F n P ops Q i K a w := by
  unfold wpOpIn
  rw [hi]
  simp only [Region.wanted, hg, if_true]
  exact h
theorem step_in {i : Nat} {K : Act → World → Prop} {a : Act} {w : World} {a' : Act} {w' : World} (h : ∀ K' : Act → World → Prop, K' a' w' → wpOpIn F n P ops Q i K' a w) (hk : K a' w') : wpOpIn F n P ops Q i K a w := h K hk
end

end Go.Proofs.Ytladkknbkgomfaa
