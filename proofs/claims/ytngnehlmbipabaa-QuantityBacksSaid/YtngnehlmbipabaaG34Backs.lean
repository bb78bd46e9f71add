/-
  Own rows of numbers, any number of them, in any order; tables of rows; what Corners is.
-/
import Derived.Test.YtngnehlmbipabaaG33Backs
import Derived.Test.YtngnehlmbipabaaG29Backs
import Derived.Test.YtngnehlmbipabaaG14Backs
set_option linter.unusedSimpArgs false
set_option linter.unusedVariables false
namespace Go.Proofs.Ytngnehlmbipabaa
open Go.RowKit
def updF {α : Type} (f : Nat → α) (s : Nat) (v : α) : Nat → α := fun t => if t = s then v else f t
theorem updF_at {α : Type} {f : Nat → α} {s : Nat} {v : α} : updF f s v s = v := if_pos rfl
theorem updF_ne {α : Type} {f : Nat → α} {s t : Nat} {v : α} (h : t ≠ s) : updF f s v t = f t := if_neg h
structure MQ (w : World) (B : Nat) (L : Nat → Option Obj) (f : Nat → Option (Value × List Int)) (W : World) : Prop where
  hB : w.heap.size ≤ B
  hL : ∀ p o, L p = some o → p < B ∨ ∃ cs t fr, o = .cells cs t fr ∧ t ≠ 2
  bel : Below w.heap.size w W
  sz : B ≤ W.heap.size
  sb : ∀ p o, L p = some o → W.heap[p]? = some o
  own : ∀ s v xs, f s = some (v, xs) → IntOwn W B v xs
  far : ∀ s s' v xs v' xs', s ≠ s' → f s = some (v, xs) → f s' = some (v', xs') → Far v v'
section
variable {w W w2 w' : World} {B : Nat} {L L' : Nat → Option Obj} {f f' : Nat → Option (Value × List Int)} {s : Nat} {v v' : Value} {xs ys : List Int}
theorem MQ.congr (h : MQ w B L f W) (hf : ∀ s, f' s = f s) : MQ w B L f' W := by
  obtain rfl : f' = f := funext hf
  exact h
theorem MQ.congrL (h : MQ w B L f W) (hf : ∀ s, L' s = L s) : MQ w B L' f W := by
  obtain rfl : L' = L := funext hf
  exact h
theorem MQ.less (h : MQ w B L f W) (hf : ∀ s p, f' s = some p → f s = some p) : MQ w B L f' W :=
  ⟨h.hB, h.hL, h.bel, h.sz, h.sb, fun s v xs e => h.own s v xs (hf s _ e), fun s s' v xs v' xs' n e e' => h.far s s' v xs v' xs' n (hf s _ e) (hf s' _ e')⟩
theorem MQ.lessL (h : MQ w B L f W) (hf : ∀ p o, L' p = some o → L p = some o) : MQ w B L' f W :=
  ⟨h.hB, fun p o e => h.hL p o (hf p o e), h.bel, h.sz, fun p o e => h.sb p o (hf p o e), h.own, h.far⟩
theorem MQ.step (h : MQ w B L f W) (hb : Below W.heap.size W w2) : MQ w B L f w2 :=
  ⟨h.hB, h.hL, bStep h.bel hb, Nat.le_trans h.sz hb.size, fun p o e => blk_step (h.sb p o e) hb, fun s v xs e => (h.own s v xs e).step hb, h.far⟩
theorem MQ.put (h : MQ w B L f W) (s : Nat) (ho : IntOwn W B v xs) (hf : ∀ s' v' xs', s' ≠ s → f s' = some (v', xs') → Far v v') : MQ w B L (updF f s (some (v, xs))) W := by
  refine ⟨h.hB, h.hL, h.bel, h.sz, h.sb, fun t v' xs' e => ?_, fun t t' v1 x1 v2 x2 n e e' => ?_⟩
  · by_cases c : t = s
    · subst c
      rw [updF_at] at e
      cases e
      exact ho
    · rw [updF_ne c] at e
      exact h.own t v' xs' e
  · by_cases c : t = s
    · subst c
      rw [updF_at] at e
      rw [updF_ne (Ne.symm n)] at e'
      cases e
      exact hf t' v2 x2 (Ne.symm n) e'
    · by_cases c' : t' = s
      · subst c'
        rw [updF_at] at e'
        rw [updF_ne c] at e
        cases e'
        exact (hf t v1 x1 c e).symm
      · rw [updF_ne c] at e
        rw [updF_ne c'] at e'
        exact h.far t t' v1 x1 v2 x2 n e e'
theorem MQ.fresh0 (h : MQ w B L f W) (s : Nat) : MQ w B L (updF f s (some (.slice (some ⟨W.heap.size, 0, none⟩) 0 0, []))) (W.alloc (.cells #[] 2)) :=
  (h.step bAlZ).put s (own_new h.sz) fun s' v' xs' _ e k e1 e2 => by
    have := ((h.own s' v' xs' e).lt k e2).2
    simp [Value.ownBlock] at e1
    omega
theorem own_new1 {W : World} {B : Nat} {x : Int} (hB : B ≤ W.heap.size) : IntOwn (W.alloc (.cells #[.int .i64 x] 2)) B (.slice (some ⟨W.heap.size, 0, none⟩) 1 1) [x] :=
  ⟨rfl, Or.inr ⟨_, _, _, rfl, hB, blk_new W _, Nat.le_refl _, by decide, rfl, rfl⟩⟩
theorem MQ.fresh1 (h : MQ w B L f W) (s : Nat) (x : Int) : MQ w B L (updF f s (some (.slice (some ⟨W.heap.size, 0, none⟩) 1 1, [x]))) (W.alloc (.cells #[.int .i64 x] 2)) :=
  (h.step bAlZ).put s (own_new1 h.sz) fun s' v' xs' _ e k e1 e2 => by
    have := ((h.own s' v' xs' e).lt k e2).2
    simp [Value.ownBlock] at e1
    omega
theorem own_type2 {B g : Nat} {v : Value} {xs : List Int} (h : IntOwn W B v xs) (hg : v.ownBlock = some g) : ∃ cur, W.heap[g]? = some (.cells cur 2 (0, 0)) := own_type h hg
theorem MQ.app (h : MQ w B L f W) (s : Nat) (hs : f s = some (v, xs)) (ho : IntOwn w' B v' ys) (hg : W.grownBy w' v.ownBlock) (hat : v'.ownBlock = v.ownBlock ∨ v'.ownBlock = some W.heap.size) : MQ w B L (updF f s (some (v', ys))) w' := by
  have hB := h.hB
  have h0 := h.own s v xs hs
  have hr := own_ge h0
  have hlt : ∀ b, b < B → some b ≠ v.ownBlock := fun b hb e => by have := hr _ e.symm; omega
  have hob : ∀ p o, L p = some o → w'.heap[p]? = some o := fun p o e => by
    refine blk_grown (h.sb p o e) hg ?_
    rcases h.hL p o e with q | ⟨cs, t, fr, rfl, ht⟩
    · exact hlt p q
    · intro c
      obtain ⟨cur, hc⟩ := own_type h0 c.symm
      rw [h.sb p _ e] at hc
      have := Option.some.inj hc
      injection this with _ h2 _
      exact ht h2
  have h1 : MQ w B L (updF f s none) w' := by
    refine ⟨h.hB, h.hL, h.bel.grown hg (by have := h.bel.size; omega) fun k hk => by have := hr k hk; omega, Nat.le_trans h.sz hg.size, hob, fun t v1 x1 e => ?_, fun t t' v1 x1 v2 x2 n e e' => ?_⟩
    · by_cases c : t = s
      · subst c; rw [updF_at] at e; cases e
      · rw [updF_ne c] at e
        exact World.ownsRow.kept (h.own t v1 x1 e) hg (h.far t s v1 x1 v xs c e hs).ne
    · by_cases c : t = s
      · subst c; rw [updF_at] at e; cases e
      · by_cases c' : t' = s
        · subst c'; rw [updF_at] at e'; cases e'
        · rw [updF_ne c] at e
          rw [updF_ne c'] at e'
          exact h.far t t' v1 x1 v2 x2 n e e'
  refine (h1.put s ho fun s' v1 x1 n e k e1 e2 => ?_).congr fun t => ?_
  · rw [updF_ne n] at e
    rcases hat with q | q
    · exact h.far s s' v xs v1 x1 (Ne.symm n) hs e k (q.symm.trans e1) e2
    · have := ((h.own s' v1 x1 e).lt k e2).2
      rw [q] at e1
      simp at e1
      omega
  · by_cases c : t = s
    · subst c; rw [updF_at, updF_at]
    · rw [updF_ne c, updF_ne c, updF_ne c]
theorem MQ.obj {cs : Array Value} {t : TypeId} (h : MQ w B L f W) (ht : t ≠ 2) : MQ w B (updF L W.heap.size (some (.cells cs t (0, 0)))) f (W.alloc (.cells cs t (0, 0))) := by
  have k := h.step (bAlZ (o := .cells cs t (0, 0)))
  refine ⟨k.hB, fun p o e => ?_, k.bel, k.sz, fun p o e => ?_, k.own, k.far⟩
  · by_cases c : p = W.heap.size
    · subst c; rw [updF_at] at e; cases e; exact Or.inr ⟨_, _, _, rfl, ht⟩
    · rw [updF_ne c] at e; exact h.hL p o e
  · by_cases c : p = W.heap.size
    · subst c; rw [updF_at] at e; cases e; exact blk_new W _
    · rw [updF_ne c] at e; exact k.sb p o e
theorem MQ.store {p o : Nat} {u : Value} {cs : Array Value} {t : TypeId} (h : MQ w B L f W) (hp : L p = some (.cells cs t (0, 0))) (hw : w.heap.size ≤ p) (ht : t ≠ 2) : MQ w B (updF L p (some (.cells (cs.setIfInBounds o u) t (0, 0)))) f (W.setCell ⟨p, o, none⟩ u) := by
  have hne : ∀ s v xs, f s = some (v, xs) → v.ownBlock ≠ some p := fun s v xs e c => by
    obtain ⟨cur, hc⟩ := own_type (h.own s v xs e) c
    rw [h.sb p _ hp] at hc
    have := Option.some.inj hc
    injection this with _ h2 _
    exact ht h2
  refine ⟨h.hB, fun q ob e => ?_, h.bel.setCell hw _, by simpa using h.sz, fun q ob e => ?_, fun s v xs e => ownsRow_setCell_other (h.own s v xs e) (hne s v xs e) _, h.far⟩
  · by_cases c : q = p
    · subst c; rw [updF_at] at e; cases e; exact Or.inr ⟨_, _, _, rfl, ht⟩
    · rw [updF_ne c] at e; exact h.hL q ob e
  · by_cases c : q = p
    · subst c; rw [updF_at] at e; cases e; exact blk_set (h.sb q _ hp)
    · rw [updF_ne c] at e; exact blk_set_other (h.sb q ob e) c
end
/-- A table of rows, as it can be read. -/
def TabAt (a : Option Addr) (n : Nat) (f : Nat → List Int) (W : World) : Prop := 0 < n → ∃ b o, a = some ⟨b, o, none⟩ ∧ b < W.heap.size ∧ ∀ k, k < n → ∃ ak ck, W.cell? ⟨b, o + k, none⟩ = some (.slice ak (f k).length ck) ∧ IntAt ak (f k) W
def TabRow (v : Value) (n : Nat) (f : Nat → List Int) (W : World) : Prop := ∃ a c, v = .slice a n c ∧ TabAt a n f W
theorem TabAt.step {a : Option Addr} {n : Nat} {f : Nat → List Int} {W w2 : World} (h : TabAt a n f W) (hb : Below W.heap.size W w2) : TabAt a n f w2 := fun h0 => by
  obtain ⟨b, o, rfl, h1, h2⟩ := h h0
  refine ⟨b, o, rfl, Nat.lt_of_lt_of_le h1 hb.size, fun k hk => ?_⟩
  obtain ⟨ak, ck, q1, q2⟩ := h2 k hk
  exact ⟨ak, ck, cell_step q1 hb, q2.step hb⟩
theorem TabRow.nil {f : Nat → List Int} {W : World} : TabRow (.slice none 0 0) 0 f W := ⟨none, 0, rfl, fun h => absurd h (by omega)⟩
/-- Row k of the corners of the first n spans. -/
def cAt (l : List (Int × Int)) (n k i : Nat) : Int := if k / 2 ^ (n - 1 - i) % 2 = 0 then (l.getD i (0, 0)).1 else (l.getD i (0, 0)).2
def cRow (l : List (Int × Int)) (n k : Nat) : List Int := (List.range n).map (cAt l n k)
def cornN (l : List (Int × Int)) : Nat := if checkB l = 0 then 2 ^ l.length else 0
theorem cRow_len (l : List (Int × Int)) (n k : Nat) : (cRow l n k).length = n := by simp [cRow]
theorem cRow_take {l : List (Int × Int)} {n k i : Nat} (h : i < n) : (cRow l n k).take (i + 1) = (cRow l n k).take i ++ [cAt l n k i] := by
  rw [List.take_succ_eq_append_getElem (by rw [cRow_len]; exact h)]
  simp [cRow]
theorem cRow_all (l : List (Int × Int)) (n k : Nat) : (cRow l n k).take n = cRow l n k := List.take_of_length_le (by rw [cRow_len]; exact Nat.le_refl _)
theorem cRow_next (l : List (Int × Int)) (n k b : Nat) (hb : b < 2) : cRow l (n + 1) (2 * k + b) = cRow l n k ++ [if b = 0 then (l.getD n (0, 0)).1 else (l.getD n (0, 0)).2] := by
  unfold cRow
  rw [List.range_succ, List.map_append]
  congr 1
  · refine List.map_congr_left fun i hi => ?_
    have hi : i < n := List.mem_range.1 hi
    unfold cAt
    have e : (2 * k + b) / 2 ^ (n + 1 - 1 - i) = k / 2 ^ (n - 1 - i) := by
      rw [show n + 1 - 1 - i = (n - 1 - i) + 1 by omega, Nat.pow_succ, Nat.mul_comm (2 ^ _) 2, ← Nat.div_div_eq_div_mul]
      congr 1
      omega
    rw [e]
  · simp only [List.map_cons, List.map_nil, cAt]
    rw [show n + 1 - 1 - n = 0 by omega, Nat.pow_zero, Nat.div_one]
    have e : (2 * k + b) % 2 = b := by omega
    rw [e]
end Go.Proofs.Ytngnehlmbipabaa

/-
  A curve that is being made of built rows: its box, the result's box, its two rows, in any order.
-/
set_option linter.unusedSimpArgs false
set_option linter.unusedVariables false
namespace Go.Proofs.Ytngnehlmbipabaa
open Go.RowKit
/-- Steps, as they lie in memory. -/
def StAt (a : Option Addr) (l : List (Int × Int)) (W : World) : Prop := l ≠ [] → ∃ b off, a = some ⟨b, off, none⟩ ∧ b < W.heap.size ∧ ∀ k, k < l.length →
  W.cell? ⟨b, off + k * 2, none⟩ = some (.int .u8 (l.getD k (0, 0)).1) ∧ W.cell? ⟨b, off + k * 2 + 1, none⟩ = some (.int .u8 (l.getD k (0, 0)).2)
theorem MQ.perm {w W : World} {B : Nat} {L : Nat → Option Obj} {f f' : Nat → Option (Value × List Int)} (h : MQ w B L f W) (g : Nat → Nat) (hg : ∀ s s', s ≠ s' → g s ≠ g s') (hf : ∀ s, f' s = f (g s)) : MQ w B L f' W :=
  ⟨h.hB, h.hL, h.bel, h.sz, h.sb, fun s v xs e => h.own (g s) v xs ((hf s).symm.trans e), fun s s' v xs v' xs' n e e' => h.far (g s) (g s') v xs v' xs' (hg s s' n) ((hf s).symm.trans e) ((hf s').symm.trans e')⟩
def cvO (R C : Nat) (cs : Array Value) : Nat → Option Obj := fun p => if p = R then some (.cells #[.slice none 0 0, .slice none 0 0] 24 (0, 0)) else if p = C then some (.cells cs 24 (0, 0)) else none
def cvF (vr : Value) (rs : List Int) (vo : Value) (os : List Int) : Nat → Option (Value × List Int) := fun s => if s = 0 then some (vr, rs) else if s = 1 then some (vo, os) else none
structure CvS (w : World) (R C B : Nat) (cs : Array Value) (vr vo : Value) (rs os : List Int) (W : World) : Prop where
  mq : MQ w B (cvO R C cs) (cvF vr rs vo os) W
  hR : w.heap.size ≤ R
  hC : w.heap.size ≤ C
  ne : R ≠ C
theorem curve_ne : 24 ≠ 2 := by decide
section
variable {w W w2 w' : World} {R C B : Nat} {cs : Array Value} {vr vo v0 v1 v2 v' : Value} {rs os : List Int} {x0 x : Int} {b0 b1 b2 : Bool}
theorem CvS.step (h : CvS w R C B cs vr vo rs os W) (hb : Below W.heap.size W w2) : CvS w R C B cs vr vo rs os w2 := ⟨h.mq.step hb, h.hR, h.hC, h.ne⟩
theorem CvS.swap (h : CvS w R C B cs vr vo rs os W) : CvS w R C B cs vo vr os rs W := by
  refine ⟨h.mq.perm (fun s => if s = 0 then 1 else if s = 1 then 0 else s) (fun s s' n => ?_) (fun s => ?_), h.hR, h.hC, h.ne⟩
  · repeat' split
    all_goals omega
  · by_cases c0 : s = 0
    · subst c0; rfl
    · by_cases c1 : s = 1
      · subst c1; rfl
      · simp only [cvF, if_neg c0, if_neg c1]
theorem cvO_R : cvO R C cs R = some (.cells #[.slice none 0 0, .slice none 0 0] 24 (0, 0)) := if_pos rfl
theorem cvO_C (h : R ≠ C) : cvO R C cs C = some (.cells cs 24 (0, 0)) := (if_neg (Ne.symm h)).trans (if_pos rfl)
theorem CvS.cells {a b : Value} (h : CvS w R C B #[a, b] vr vo rs os W) : (W.cell? ⟨R, 0, none⟩ = some (.slice none 0 0) ∧ W.cell? ⟨R, 1, none⟩ = some (.slice none 0 0) ∧ W.frozen? ⟨R, 0, none⟩ = false ∧ W.frozen? ⟨R, 1, none⟩ = false ∧ R < W.heap.size) ∧
    W.cell? ⟨C, 0, none⟩ = some a ∧ W.cell? ⟨C, 1, none⟩ = some b ∧ W.frozen? ⟨C, 0, none⟩ = false ∧ W.frozen? ⟨C, 1, none⟩ = false ∧ C < W.heap.size := by
  have h1 := h.mq.sb R _ cvO_R
  have h2 := h.mq.sb C _ (cvO_C h.ne)
  exact ⟨⟨blk_cell h1 rfl, blk_cell h1 rfl, blk_free h1, blk_free h1, blk_lt h1⟩, blk_cell h2 rfl, blk_cell h2 rfl, blk_free h2, blk_free h2, blk_lt h2⟩
theorem CvS.done {a b : Option Addr} {n m ca cb : Nat} {u v : Value} (h : CvS w R C B cs (.slice a n ca) (.slice b m cb) rs os W) : IntAt a rs ((W.setCell ⟨R, 0, none⟩ u).setCell ⟨R, 1, none⟩ v) ∧ IntAt b os ((W.setCell ⟨R, 0, none⟩ u).setCell ⟨R, 1, none⟩ v) ∧ Below w.heap.size w ((W.setCell ⟨R, 0, none⟩ u).setCell ⟨R, 1, none⟩ v) := by
  have k := (h.mq.store (o := 0) (u := u) cvO_R h.hR curve_ne).store (o := 1) (u := v) updF_at h.hR curve_ne
  obtain ⟨_, _, e, q⟩ := (k.own 0 _ _ rfl).row
  obtain ⟨_, _, e', q'⟩ := (k.own 1 _ _ rfl).row
  cases e
  cases e'
  exact ⟨q, q', k.bel⟩
/-- The state of a region that makes a number out of the row's last one and appends it. -/
structure StV (w : World) (R C B : Nat) (cs : Array Value) (vr : Value) (rs : List Int) (vo : Value) (os : List Int) (x0 x : Int) (b0 b1 b2 : Bool) (v0 v1 v2 : Value) (W : World) : Prop where
  mq : MQ w B (cvO R C cs) (updF (updF (cvF vr rs vo os) 2 (if b1 = true then some (v1, [x]) else none)) 0 (some (if b2 = true then (v2, rs ++ [x]) else (vr, rs)))) W
  hR : w.heap.size ≤ R
  hC : w.heap.size ≤ C
  ne : R ≠ C
  i1 : b1 = true → b0 = true
  i2 : b2 = true → b1 = true
  ld : b0 = true → v0 = .int .i64 x0
theorem StV.step (h : StV w R C B cs vr rs vo os x0 x b0 b1 b2 v0 v1 v2 W) (hb : Below W.heap.size W w2) : StV w R C B cs vr rs vo os x0 x b0 b1 b2 v0 v1 v2 w2 := ⟨h.mq.step hb, h.hR, h.hC, h.ne, h.i1, h.i2, h.ld⟩
theorem CvS.start (h : CvS w R C B cs vr vo rs os W) : StV w R C B cs vr rs vo os x0 x false false false v0 v1 v2 W := by
  refine ⟨h.mq.congr fun s => ?_, h.hR, h.hC, h.ne, (fun e => by cases e), (fun e => by cases e), (fun e => by cases e)⟩
  by_cases c : s = 0
  · subst c; rfl
  · rw [updF_ne c]
    by_cases c2 : s = 2
    · subst c2; rfl
    · rw [updF_ne c2]
theorem StV.load (h : StV w R C B cs vr rs vo os x0 x false b1 b2 v0 v1 v2 W) : StV w R C B cs vr rs vo os x0 x true b1 b2 (.int .i64 x0) v1 v2 W := ⟨h.mq, h.hR, h.hC, h.ne, fun _ => rfl, h.i2, fun _ => rfl⟩
theorem StV.built (h : StV w R C B cs vr rs vo os x0 x true false b2 v0 v1 v2 W) : StV w R C B cs vr rs vo os x0 x true true b2 v0 (.slice (some ⟨W.heap.size, 0, none⟩) 1 1) v2 (W.alloc (.cells #[.int .i64 x] 2)) := by
  obtain rfl : b2 = false := by
    cases b2 with
    | false => rfl
    | true => exact absurd (h.i2 rfl) (by decide)
  refine ⟨(h.mq.fresh1 2 x).congr fun s => ?_, h.hR, h.hC, h.ne, fun _ => rfl, fun _ => rfl, h.ld⟩
  by_cases c : s = 0
  · subst c
    rw [updF_at, updF_ne (show (0 : Nat) ≠ 2 by omega), updF_at]
  · rw [updF_ne c]
    by_cases c2 : s = 2
    · subst c2
      rw [updF_at, updF_at, if_pos rfl]
    · rw [updF_ne c2, updF_ne c2, updF_ne c, updF_ne c2]
theorem StV.own (h : StV w R C B cs vr rs vo os x0 x b0 b1 false v0 v1 v2 W) : IntOwn W B vr rs := h.mq.own 0 _ _ updF_at
theorem StV.src (h : StV w R C B cs vr rs vo os x0 x b0 true b2 v0 v1 v2 W) : IntOwn W B v1 [x] := h.mq.own 2 _ _ (by rw [updF_ne (by decide), updF_at, if_pos rfl])
theorem StV.srcAt {g c : Nat} (h : StV w R C B cs vr rs vo os x0 x b0 true b2 v0 (.slice (some ⟨g, 0, none⟩) 1 c) v2 W) : IntAt (some ⟨g, 0, none⟩) [x] W := by
  obtain ⟨_, _, e, q⟩ := h.src.row
  cases e
  exact q
theorem StV.added (h : StV w R C B cs vr rs vo os x0 x b0 true false v0 v1 v2 W) (ho : IntOwn w' B v' (rs ++ [x])) (hg : W.grownBy w' vr.ownBlock) (hat : v'.ownBlock = vr.ownBlock ∨ v'.ownBlock = some W.heap.size) : StV w R C B cs vr rs vo os x0 x b0 true true v0 v1 v' w' := by
  refine ⟨(h.mq.app 0 updF_at ho hg hat).congr fun s => ?_, h.hR, h.hC, h.ne, h.i1, fun _ => rfl, h.ld⟩
  by_cases c : s = 0
  · subst c
    rw [updF_at, updF_at, if_pos rfl]
  · rw [updF_ne c, updF_ne c, updF_ne c]
theorem StV.cells {a b : Value} (h : StV w R C B #[a, b] vr rs vo os x0 x b0 b1 b2 v0 v1 v2 W) : W.cell? ⟨C, 0, none⟩ = some a ∧ W.cell? ⟨C, 1, none⟩ = some b ∧ W.frozen? ⟨C, 0, none⟩ = false ∧ W.frozen? ⟨C, 1, none⟩ = false ∧ C < W.heap.size := by
  have h2 := h.mq.sb C _ (cvO_C h.ne)
  exact ⟨blk_cell h2 rfl, blk_cell h2 rfl, blk_free h2, blk_free h2, blk_lt h2⟩
theorem own_rd {g n c : Nat} {k : Nat} (h : IntOwn W B (.slice (some ⟨g, 0, none⟩) n c) rs) (hk : k < rs.length) : W.cell? ⟨g, k, none⟩ = some (.int .i64 (rs.getD k 0)) := by
  obtain ⟨_, _, e, q⟩ := h.row
  cases e
  obtain ⟨b, o, e2, q2⟩ := int_cells q (fun h => by rw [h] at hk; simp at hk)
  cases e2
  simpa using q2 k hk
theorem StV.rd {g n c k : Nat} {y : Int} (h : StV w R C B cs (.slice (some ⟨g, 0, none⟩) n c) rs vo os x0 x false b1 b2 v0 v1 v2 W) (hk : k < rs.length) (hy : rs.getD k 0 = y) : W.cell? ⟨g, k, none⟩ = some (.int .i64 y) := by
  have e1 : b1 = false := by
    cases b1 with
    | false => rfl
    | true => exact absurd (h.i1 rfl) (by decide)
  subst e1
  have e2 : b2 = false := by
    cases b2 with
    | false => rfl
    | true => exact absurd (h.i2 rfl) (by decide)
  subst e2
  rw [← hy]
  exact own_rd h.own hk
theorem StV.fin {o : Nat} (h : StV w R C B cs vr rs vo os x0 x true true true v0 v1 v2 W) : CvS w R C B (cs.setIfInBounds o v2) v2 vo (rs ++ [x]) os (W.setCell ⟨C, o, none⟩ v2) := by
  refine ⟨((h.mq.store (o := o) (u := v2) (cvO_C h.ne) h.hC curve_ne).less fun s p e => ?_).congrL fun p => ?_, h.hR, h.hC, h.ne⟩
  · by_cases c : s = 0
    · subst c
      rw [updF_at, if_pos rfl]
      exact e
    · rw [updF_ne c]
      by_cases c2 : s = 2
      · subst c2
        cases e
      · rw [updF_ne c2]
        unfold cvF at e ⊢
        rw [if_neg c] at e ⊢
        exact e
  · by_cases c : p = C
    · subst c
      rw [updF_at, cvO_C h.ne]
    · rw [updF_ne c]
      unfold cvO
      rw [if_neg c, if_neg c]
theorem CvS.made {x y : Int} : CvS w w.heap.size (w.heap.size + 3) w.heap.size #[.slice (some ⟨w.heap.size + 1, 0, none⟩) 1 1, .slice (some ⟨w.heap.size + 2, 0, none⟩) 1 1] (.slice (some ⟨w.heap.size + 1, 0, none⟩) 1 1) (.slice (some ⟨w.heap.size + 2, 0, none⟩) 1 1) [x] [y]
    ((((w.alloc (.cells #[.slice none 0 0, .slice none 0 0] 24)).alloc (.cells #[.int .i64 x] 2)).alloc (.cells #[.int .i64 y] 2)).alloc (.cells #[.slice (some ⟨w.heap.size + 1, 0, none⟩) 1 1, .slice (some ⟨w.heap.size + 2, 0, none⟩) 1 1] 24)) := by
  have m0 : MQ w w.heap.size (fun _ => none) (fun _ => none) w := ⟨Nat.le_refl _, (fun _ _ e => by cases e), Below.refl _ _, Nat.le_refl _, (fun _ _ e => by cases e), (fun _ _ _ e => by cases e), (fun _ _ _ _ _ _ _ e => by cases e)⟩
  have m1 := ((m0.obj (cs := #[.slice none 0 0, .slice none 0 0]) curve_ne).fresh1 0 x).fresh1 1 y
  have m3 := m1.obj (cs := #[.slice (some ⟨w.heap.size + 1, 0, none⟩) 1 1, .slice (some ⟨w.heap.size + 2, 0, none⟩) 1 1]) curve_ne
  simp only [World.size_alloc] at m3
  refine ⟨(m3.congr fun s => ?_).congrL fun p => ?_, Nat.le_refl _, by omega, by omega⟩
  · by_cases c1 : s = 1
    · subst c1; rfl
    · by_cases c0 : s = 0
      · subst c0; rfl
      · rw [updF_ne c1, updF_ne c0]
        simp only [cvF, if_neg c0, if_neg c1]
  · by_cases c : p = w.heap.size + 3
    · subst c
      rw [updF_at, cvO_C (by omega)]
    · rw [updF_ne c]
      by_cases c2 : p = w.heap.size
      · subst c2
        rw [updF_at, cvO_R]
      · rw [updF_ne c2]
        simp only [cvO, if_neg c, if_neg c2]
end
theorem stX_ne {x : Int} {l : List (Int × Int)} : stX x l ≠ [] := by cases l <;> simp [stX]
theorem stY_ne {x : Int} {l : List (Int × Int)} : stY x l ≠ [] := by cases l <;> simp [stY]
theorem take_st {l : List (Int × Int)} {k : Nat} (h : k < l.length) : l.take (k + 1) = l.take k ++ [l.getD k (0, 0)] := by
  rw [List.take_succ_eq_append_getElem h, List.getD_eq_getElem?_getD, List.getElem?_eq_getElem h]
  rfl
theorem stX_take {l : List (Int × Int)} {x : Int} {k : Nat} (h : k < l.length) : stX x (l.take (k + 1)) = stX x (l.take k) ++ [(stX x (l.take k)).getD k 0 + 1 + (l.getD k (0, 0)).1] := by
  have e : (l.take k).length = k := by rw [List.length_take]; omega
  rw [take_st h, stX_snoc, e]
theorem stY_take {l : List (Int × Int)} {x : Int} {k : Nat} (h : k < l.length) : stY x (l.take (k + 1)) = stY x (l.take k) ++ [(stY x (l.take k)).getD k 0 + (l.getD k (0, 0)).2] := by
  have e : (l.take k).length = k := by rw [List.length_take]; omega
  rw [take_st h, stY_snoc, e]
theorem stps_take {l : List (Int × Int)} {k : Nat} (h0 : l ≠ []) (h : l.length ≤ k ∧ k ≤ 20 ∨ k = 20) : l.take k = stps l := by
  unfold stps
  rw [if_neg h0]
  rcases h with ⟨h, h2⟩ | rfl
  · rw [List.take_of_length_le h, List.take_of_length_le (by omega)]
  · rfl
end Go.Proofs.Ytngnehlmbipabaa
