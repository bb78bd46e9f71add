/-
  Plants: what the document says of them, in plain words.
-/
import Derived.RowKit
import Derived.WalkKit
import Derived.WalkSpells
import Derived.WalkLawsBesides
import Derived.Deep.QuietTactic
import Derived.BigQuiet
import Derived.Lib.Hide
import Derived.Deep.RegionHeld3
import Derived.Maps.AppendAt
import Derived.OneCell
import Derived.OwnWalk
set_option linter.unusedSimpArgs false
set_option linter.unusedVariables false
namespace Go.Proofs.Ytladkknbkgomfaa
/-- a fault: its kind, its place, and what is always shown -/
abbrev Brk := Int × Int × Bool
def okBrk (b : Brk) : Bool := decide (0 ≤ b.1 ∧ b.1 ≤ 6 ∧ 0 ≤ b.2.1 ∧ b.2.1 ≤ 2) && !(decide (b.1 = 0) && !decide (b.2.1 = 0)) && !(b.2.2 && !decide (b.1 = 5) && !decide (b.1 = 6))
def hasS (k a : Int) (r : Bool × Bool) (b : Brk) : Bool × Bool := if b.1 = k ∧ b.2.1 = a then (true, b.2.2) else r
def hasB (k a : Int) (l : List Brk) : Bool × Bool := l.foldl (hasS k a) (false, false)
theorem hasB_snoc (k a : Int) (l : List Brk) (b : Brk) : hasB k a (l ++ [b]) = hasS k a (hasB k a l) b := by
  unfold hasB; rw [List.foldl_append]; rfl
theorem hasB_take {k a : Int} {l : List Brk} {j : Nat} {b : Brk} (h : l[j]? = some b) : hasB k a (l.take (j + 1)) = hasS k a (hasB k a (l.take j)) b := by
  rw [List.take_add_one, h]; exact hasB_snoc ..
/-- three booleans -/
abbrev T3 := Bool × Bool × Bool
def f3 : T3 := (false, false, false)
def at3 (t : T3) (i : Nat) : Bool := if i = 0 then t.1 else if i = 1 then t.2.1 else t.2.2
/-- what stands at place k of a ring of m drives, behind the drives D -/
def ringV (D : List T3) (m k : Nat) : T3 := let j := D.length / m * m + k; if k < D.length % m then D.getD j f3 else if m ≤ j then D.getD (j - m) f3 else f3
theorem ringV_nil (m k : Nat) : ringV [] m k = f3 := by
  unfold ringV; simp [f3]
theorem ringV_put {D : List T3} {m k : Nat} (d : T3) (hm : 0 < m) (hk : k < m) : ringV (D ++ [d]) m k = if k = D.length % m then d else ringV D m k := by
  have e1 := Nat.div_add_mod D.length m
  have e2 := Nat.mod_lt D.length hm
  have e3 := Nat.div_add_mod (D.length + 1) m
  have e4 := Nat.mod_lt (D.length + 1) hm
  rw [Nat.mul_comm] at e1 e3
  unfold ringV
  simp only [List.length_append, List.length_cons, List.length_nil, Nat.zero_add]
  generalize hq : D.length / m * m = q at *
  generalize hr : D.length % m = r at *
  by_cases c : r + 1 = m
  · have f1 : (D.length + 1) % m = 0 := by
      rw [← e1, Nat.add_assoc, c, ← hq]; simp
    have f2 : (D.length + 1) / m * m = q + m := by rw [f1] at e3; omega
    rw [f1, f2]
    simp only [Nat.not_lt_zero, if_false]
    rw [if_pos (by omega : m ≤ q + m + k)]
    rw [show q + m + k - m = q + k by omega]
    by_cases ck : k = r
    · rw [if_pos ck]
      rw [List.getD_eq_getElem?_getD, List.getElem?_append_right (by omega)]
      rw [show q + k - D.length = 0 by omega]; rfl
    · rw [if_neg ck, if_pos (by omega : k < r)]
      rw [List.getD_eq_getElem?_getD, List.getElem?_append_left (by omega), ← List.getD_eq_getElem?_getD]
  · have f1 : (D.length + 1) % m = r + 1 := by
      have : D.length + 1 = (r + 1) + m * (D.length / m) := by rw [Nat.mul_comm, hq]; omega
      rw [this, Nat.add_mul_mod_self_left, Nat.mod_eq_of_lt (by omega)]
    have f2 : (D.length + 1) / m * m = q := by omega
    rw [f1, f2]
    by_cases ck : k = r
    · subst ck
      rw [if_pos (by omega), if_pos rfl, List.getD_eq_getElem?_getD, List.getElem?_append_right (by omega)]
      rw [show q + k - D.length = 0 by omega]; rfl
    · rw [if_neg ck]
      by_cases c2 : k < r
      · rw [if_pos (by omega), if_pos c2, List.getD_eq_getElem?_getD, List.getElem?_append_left (by omega), ← List.getD_eq_getElem?_getD]
      · rw [if_neg (by omega), if_neg c2]
        by_cases c3 : m ≤ q + k
        · rw [if_pos c3, if_pos c3, List.getD_eq_getElem?_getD, List.getElem?_append_left (by omega), ← List.getD_eq_getElem?_getD]
        · rw [if_neg c3, if_neg c3]
/-- the oldest drive of a ring stands where the next one will be written -/
theorem ringV_old {D : List T3} {d : T3} {lag : Nat} : ringV (D ++ [d]) (lag + 1) ((D.length + 1) % (lag + 1)) = if lag ≤ D.length then (D ++ [d]).getD (D.length - lag) f3 else f3 := by
  have e3 := Nat.div_add_mod (D.length + 1) (lag + 1)
  rw [Nat.mul_comm] at e3
  unfold ringV
  simp only [List.length_append, List.length_cons, List.length_nil, Nat.zero_add, Nat.lt_irrefl, if_false]
  rw [e3]
  by_cases c : lag ≤ D.length
  · rw [if_pos (by omega), if_pos c, show D.length + 1 - (lag + 1) = D.length - lag by omega]
  · rw [if_neg (by omega), if_neg c]
/-- a contactor behind a move -/
def shutI (weld stuck driven was : Bool) : Bool := !stuck && (driven || weld && was)
end Go.Proofs.Ytladkknbkgomfaa

/-
  Plants: what they show, in plain words.
-/
set_option linter.unusedSimpArgs false
set_option linter.unusedVariables false
namespace Go.Proofs.Ytladkknbkgomfaa
open Go.RowKit
/-- a truth: 25 numbers (values, errors, what lies show), crash, water, link, pack, want, reset -/
structure Tru where
  n : Nat → Int
  cr : Bool
  wa : Bool
  link : Int
  pack : Int
  want : Bool
  rs : Bool
def most : Int := 1099511627776
def isQ (x : Int) : Bool := decide (-most ≤ x ∧ x ≤ most)
def isE (x : Int) : Bool := decide (-(most / 2) ≤ x ∧ x ≤ most / 2)
/-- the place q of a truth is possible -/
def okQ (t : Tru) (q : Nat) : Bool := isQ (t.n q) && isQ (t.n (20 + q)) && isE (t.n (5 + q)) && isE (t.n (10 + q)) && isE (t.n (15 + q))
def okTru (t : Tru) : Bool := okQ t 0 && okQ t 1 && okQ t 2 && okQ t 3 && okQ t 4 && isQ t.link && isQ t.pack
/-- the six cells of channel i -/
def chanC (l : List Brk) (t : Tru) (i : Nat) : List Value :=
  if (hasB 2 i l).1 then .bool false :: List.replicate 5 (.int .i64 0)
  else .bool true :: (List.range 5).map fun q => .int .i64 (if (hasB 1 i l).1 then t.n (20 + q) else t.n q + t.n (5 + 5 * i + q))
def wireB (l : List Brk) (k : Int) (i : Nat) (b : Bool) : Bool := if (hasB k i l).1 then (hasB k i l).2 else b
/-- the 31 cells of what is shown -/
def sigC (l : List Brk) (t : Tru) (sh : T3) : List Value :=
  chanC l t 0 ++ chanC l t 1 ++ chanC l t 2 ++ (List.range 3).map (fun i => .bool (wireB l 5 i t.cr)) ++ (List.range 3).map (fun i => .bool (wireB l 5 i t.wa)) ++ (List.range 3).map (fun i => .bool (wireB l 6 i (at3 sh i))) ++ [.int .i64 t.link, .int .i64 t.pack, .bool t.want, .bool t.rs]
/-- behind a move -/
def moveT (l : List Brk) (drv sh : T3) : T3 := (shutI (hasB 3 0 l).1 (hasB 4 0 l).1 (at3 drv 0) (at3 sh 0), shutI (hasB 3 1 l).1 (hasB 4 1 l).1 (at3 drv 1) (at3 sh 1), shutI (hasB 3 2 l).1 (hasB 4 2 l).1 (at3 drv 2) (at3 sh 2))
end Go.Proofs.Ytladkknbkgomfaa

/-
  Small facts on worlds that every walk of this claim uses.
-/
set_option linter.unusedSimpArgs false
set_option linter.unusedVariables false
namespace Go.Proofs.Ytladkknbkgomfaa
open Go.RowKit

/-! Contracts that leave the world alone, in a region that draws its order (behind a draw, or behind two). -/
theorem quiet_left {P : Program} {f : FuncId} {args : Array Value} {w : World} {n : Nat} {v : Value}
    (h : Calls P f args (w.drewN n) fun e w' => e = .returned v ∧ w.drewN n = w') : Calls P f args (w.drewN n) fun e w'' => e = .returned v ∧ ∃ m, w'' = w.drewN m :=
  h.mono fun _ _ ⟨he, hm⟩ => ⟨he, n, hm.symm⟩
theorem quiet_add_left {P : Program} {f : FuncId} {args : Array Value} {w : World} {a n : Nat} {v : Value}
    (h : Calls P f args (w.drewN (a + n)) fun e w' => e = .returned v ∧ w.drewN (a + n) = w') :
    Calls P f args (w.drewN (a + n)) fun e w'' => e = .returned v ∧ ∃ m, w'' = w.drewN (a + m) :=
  h.mono fun _ _ ⟨he, hm⟩ => ⟨he, n, hm.symm⟩

/-! What a call leaves of memory. -/
theorem bcell {W w1 : World} (hb : Below W.heap.size W w1) : (∀ b o, b < W.heap.size → w1.cell? ⟨b, o, none⟩ = W.cell? ⟨b, o, none⟩) ∧ (∀ b o, b < W.heap.size → w1.frozen? ⟨b, o, none⟩ = W.frozen? ⟨b, o, none⟩) :=
  ⟨fun b o h => hb.cell (p := ⟨b, o, none⟩) h, fun b o h => hb.frozen (p := ⟨b, o, none⟩) h⟩
theorem bAlloc {w b : World} (h : Below w.heap.size w b) (o : Obj) : Below w.heap.size w (b.alloc o) := h.alloc h.size o
theorem bStep {w b c : World} (h : Below w.heap.size w b) (k : Below b.heap.size b c) : Below w.heap.size w c := h.trans (k.mono h.size)
theorem bSet {w b : World} (h : Below w.heap.size w b) {p : Addr} (hp : w.heap.size ≤ p.block) (v : Value) : Below w.heap.size w (b.setCell p v) := h.setCell hp v
theorem bDrew {B : Nat} {w b : World} (h : Below B w b) : Below B w b.drew := h.drew
theorem bDrewN {B : Nat} {w b : World} {n : Nat} (h : Below B w b) : Below B w (b.drewN n) := ⟨h.os, h.tape, h.output, h.size, h.block⟩

/-! A block that is known whole: behind a store, a new block, a draw. -/
theorem blk_set {w : World} {b o : Nat} {v : Value} {cs : Array Value} {t : TypeId} {fr : Nat × Nat} (h : w.heap[b]? = some (.cells cs t fr)) :
    (w.setCell ⟨b, o, none⟩ v).heap[b]? = some (.cells (cs.setIfInBounds o v) t fr) := by
  simp [World.setCell, Array.getElem?_modify, h]
theorem blk_set_other {w : World} {b : Nat} {p : Addr} {v : Value} {x : Obj} (h : w.heap[b]? = some x) (hne : b ≠ p.block) : (w.setCell p v).heap[b]? = some x :=
  (Below.heap_setCell w p v b hne).trans h
theorem blk_lt {w : World} {b : Nat} {x : Obj} (h : w.heap[b]? = some x) : b < w.heap.size := by
  rcases Nat.lt_or_ge b w.heap.size with h1 | h1
  · exact h1
  · rw [Array.getElem?_eq_none h1] at h; cases h
theorem blk_alloc {w : World} {b : Nat} {o x : Obj} (h : w.heap[b]? = some x) : (w.alloc o).heap[b]? = some x :=
  (Below.heap_alloc w o b (blk_lt h)).trans h
theorem blk_new (w : World) (o : Obj) : (w.alloc o).heap[w.heap.size]? = some o := by
  show (w.heap.push o)[w.heap.size]? = _
  simp
theorem blk_below {B : Nat} {w w1 : World} {b : Nat} {x : Obj} (h : w.heap[b]? = some x) (hb : Below B w w1) (hB : b < B) : w1.heap[b]? = some x := (hb.block b hB).trans h
theorem blk_step {w w1 : World} {b : Nat} {x : Obj} (h : w.heap[b]? = some x) (hb : Below w.heap.size w w1) : w1.heap[b]? = some x := blk_below h hb (blk_lt h)
theorem blk_cell {w : World} {b o : Nat} {cs : Array Value} {t : TypeId} {fr : Nat × Nat} {v : Value} (h : w.heap[b]? = some (.cells cs t fr)) (hv : cs[o]? = some v) : w.cell? ⟨b, o, none⟩ = some v := by
  simp [World.cell?, h, hv]
theorem blk_free {w : World} {b o : Nat} {cs : Array Value} {t : TypeId} (h : w.heap[b]? = some (.cells cs t (0, 0))) : w.frozen? ⟨b, o, none⟩ = false := by
  simp [World.frozen?, h]

/-! Facts on cells that a region keeps: behind a call, a new block, a draw. -/
theorem cell_lt {W : World} {p : Addr} {v : Value} (h : W.cell? p = some v) : p.block < W.heap.size := by
  rcases Nat.lt_or_ge p.block W.heap.size with h1 | h1
  · exact h1
  · simp [World.cell?, Array.getElem?_eq_none h1] at h
theorem cell_step {W w2 : World} {p : Addr} {v : Value} (h : W.cell? p = some v) (hb : Below W.heap.size W w2) : w2.cell? p = some v := (hb.cell (cell_lt h)).trans h
theorem free_step {W w2 : World} {p : Addr} {v : Value} (h : W.cell? p = some v) (hf : W.frozen? p = false) (hb : Below W.heap.size W w2) : w2.frozen? p = false := (hb.frozen (cell_lt h)).trans hf
theorem cell_of_set {W : World} {a p : Addr} {v x : Value} (h : (W.setCell a v).cell? p = some x) : ∃ y, W.cell? p = some y := by
  cases hy : W.cell? p with
  | some y => exact ⟨y, rfl⟩
  | none =>
    exfalso
    revert h hy
    unfold World.cell? World.setCell
    simp only [Array.getElem?_modify]
    by_cases e : a.block = p.block
    · rw [if_pos e]
      cases W.heap[p.block]? with
      | none => simp
      | some o =>
        cases o <;> try simp
        rename_i c t f
        by_cases hp : p.spot.isSome = true <;> by_cases ha : a.spot.isSome = true <;> simp_all
        all_goals
          intros
          rcases Nat.lt_or_ge p.off c.size with h1 | h1
          · first | exact h1 | simp_all
          · simp_all
    · rw [if_neg e]
      intro h1 h2
      simp_all
/-- A box of two cells at r that will be written: whatever it holds. -/
def ResBox (r : Nat) (W : World) : Prop := (∃ x0 x1, W.cell? ⟨r, 0, none⟩ = some x0 ∧ W.cell? ⟨r, 1, none⟩ = some x1) ∧ W.frozen? ⟨r, 0, none⟩ = false ∧ W.frozen? ⟨r, 1, none⟩ = false
theorem ResBox.step {W w2 : World} {r : Nat} (h : ResBox r W) (hb : Below W.heap.size W w2) : ResBox r w2 := by
  obtain ⟨⟨x0, x1, h1, h2⟩, h3, h4⟩ := h
  exact ⟨⟨x0, x1, cell_step h1 hb, cell_step h2 hb⟩, free_step h1 h3 hb, free_step h2 h4 hb⟩
theorem ResBox.set {W : World} {r : Nat} (h : ResBox r W) (v0 v1 : Value) : ResBox r ((W.setCell ⟨r, 0, none⟩ v0).setCell ⟨r, 1, none⟩ v1) := by
  obtain ⟨⟨x0, x1, h1, h2⟩, h3, h4⟩ := h
  refine ⟨⟨v0, v1, ?_, ?_⟩, ?_, ?_⟩ <;> go_simp
/-- A parameter's box of two cells at b, and the result's box of two cells at r. -/
def Box1 (w : World) (b r : Nat) (v0 v1 : Value) (W : World) : Prop :=
  W.cell? ⟨b, 0, none⟩ = some v0 ∧ W.cell? ⟨b, 1, none⟩ = some v1 ∧ ResBox r W ∧ Below w.heap.size w W
theorem Box1.step {w W w2 : World} {b r : Nat} {v0 v1 : Value} (h : Box1 w b r v0 v1 W) (hb : Below W.heap.size W w2) : Box1 w b r v0 v1 w2 := by
  obtain ⟨h1, h2, h3, h7⟩ := h
  exact ⟨cell_step h1 hb, cell_step h2 hb, h3.step hb, bStep h7 hb⟩
theorem Box1.alloc {w W : World} {b r : Nat} {v0 v1 : Value} (h : Box1 w b r v0 v1 W) (o : Obj) : Box1 w b r v0 v1 (W.alloc o) := h.step ((Below.refl _ _).alloc (Nat.le_refl _) o)
theorem Box1.drew {w W : World} {b r : Nat} {v0 v1 : Value} (h : Box1 w b r v0 v1 W) : Box1 w b r v0 v1 W.drew := h.step (Below.refl _ _).drew
theorem cell_set_far {W : World} {b r o o' : Nat} {v x : Value} (h : W.cell? ⟨b, o, none⟩ = some x) (hne : b ≠ r) : (W.setCell ⟨r, o', none⟩ v).cell? ⟨b, o, none⟩ = some x :=
  (World.cell?_of_block (w := W) (Below.heap_setCell W _ _ _ hne)).trans h
theorem Box1.set {w W : World} {b r : Nat} {v0 v1 : Value} (h : Box1 w b r v0 v1 W) (hr : w.heap.size ≤ r) (hne : b ≠ r) (x0 x1 : Value) : Box1 w b r v0 v1 ((W.setCell ⟨r, 0, none⟩ x0).setCell ⟨r, 1, none⟩ x1) := by
  obtain ⟨h1, h2, h3, h7⟩ := h
  exact ⟨cell_set_far (cell_set_far h1 hne) hne, cell_set_far (cell_set_far h2 hne) hne, h3.set x0 x1, bSet (bSet h7 hr _) hr _⟩
/-- Two parameters' boxes at b, c, and the result's at r. -/
def Box2 (w : World) (b c r : Nat) (v0 v1 x0 x1 : Value) (W : World) : Prop :=
  W.cell? ⟨b, 0, none⟩ = some v0 ∧ W.cell? ⟨b, 1, none⟩ = some v1 ∧ W.cell? ⟨c, 0, none⟩ = some x0 ∧ W.cell? ⟨c, 1, none⟩ = some x1 ∧ ResBox r W ∧ Below w.heap.size w W
theorem Box2.step {w W w2 : World} {b c r : Nat} {v0 v1 x0 x1 : Value} (h : Box2 w b c r v0 v1 x0 x1 W) (hb : Below W.heap.size W w2) : Box2 w b c r v0 v1 x0 x1 w2 := by
  obtain ⟨h1, h2, k1, k2, h3, h7⟩ := h
  exact ⟨cell_step h1 hb, cell_step h2 hb, cell_step k1 hb, cell_step k2 hb, h3.step hb, bStep h7 hb⟩
theorem Box2.alloc {w W : World} {b c r : Nat} {v0 v1 x0 x1 : Value} (h : Box2 w b c r v0 v1 x0 x1 W) (o : Obj) : Box2 w b c r v0 v1 x0 x1 (W.alloc o) := h.step ((Below.refl _ _).alloc (Nat.le_refl _) o)
theorem Box2.drew {w W : World} {b c r : Nat} {v0 v1 x0 x1 : Value} (h : Box2 w b c r v0 v1 x0 x1 W) : Box2 w b c r v0 v1 x0 x1 W.drew := h.step (Below.refl _ _).drew
theorem Box2.set {w W : World} {b c r : Nat} {v0 v1 y0 y1 : Value} (h : Box2 w b c r v0 v1 y0 y1 W) (hr : w.heap.size ≤ r) (hne : b ≠ r) (hne2 : c ≠ r) (x0 x1 : Value) : Box2 w b c r v0 v1 y0 y1 ((W.setCell ⟨r, 0, none⟩ x0).setCell ⟨r, 1, none⟩ x1) := by
  obtain ⟨h1, h2, h4, h5, h3, h7⟩ := h
  exact ⟨cell_set_far (cell_set_far h1 hne) hne, cell_set_far (cell_set_far h2 hne) hne, cell_set_far (cell_set_far h4 hne2) hne2, cell_set_far (cell_set_far h5 hne2) hne2, h3.set x0 x1, bSet (bSet h7 hr _) hr _⟩

end Go.Proofs.Ytladkknbkgomfaa

/-
  Small facts on worlds, continued.
-/
set_option linter.unusedSimpArgs false
set_option linter.unusedVariables false
namespace Go.Proofs.Ytladkknbkgomfaa
open Go.RowKit

/-! The same, the step first: for 'by assumption' in this order. -/
theorem cellS {W w2 : World} {p : Addr} {v : Value} (hb : Below W.heap.size W w2) (h : W.cell? p = some v) : w2.cell? p = some v := cell_step h hb
theorem cellA {W : World} {o : Obj} {p : Addr} {v : Value} (h : W.cell? p = some v) : (W.alloc o).cell? p = some v := cell_step h ((Below.refl _ _).alloc (Nat.le_refl _) o)
theorem cellD {W : World} {p : Addr} {v : Value} (h : W.cell? p = some v) : W.drew.cell? p = some v := h
theorem freeS {W w2 : World} {p : Addr} {v : Value} (hb : Below W.heap.size W w2) (h : W.cell? p = some v) (hf : W.frozen? p = false) : w2.frozen? p = false := free_step h hf hb
theorem freeA {W : World} {o : Obj} {p : Addr} {v : Value} (h : W.cell? p = some v) (hf : W.frozen? p = false) : (W.alloc o).frozen? p = false := free_step h hf ((Below.refl _ _).alloc (Nat.le_refl _) o)
theorem freeD {W : World} {p : Addr} (h : W.frozen? p = false) : W.drew.frozen? p = false := h
theorem bStepF {w b c : World} (k : Below b.heap.size b c) (h : Below w.heap.size w b) : Below w.heap.size w c := bStep h k

end Go.Proofs.Ytladkknbkgomfaa

/-
  Own rows of any types, any number of them, in any order; objects that stay.
-/
set_option linter.unusedSimpArgs false
set_option linter.unusedVariables false
namespace Go.Proofs.Ytladkknbkgomfaa
open Go.RowKit
namespace Mr
theorem bAl {W : World} {o : Obj} : Below W.heap.size W (W.alloc o) := (Below.refl _ _).alloc (Nat.le_refl _) _
def updF {α : Type} (f : Nat → α) (s : Nat) (v : α) : Nat → α := fun t => if t = s then v else f t
theorem updF_at {α : Type} {f : Nat → α} {s : Nat} {v : α} : updF f s v s = v := if_pos rfl
theorem updF_ne {α : Type} {f : Nat → α} {s t : Nat} {v : α} (h : t ≠ s) : updF f s v t = f t := if_neg h
theorem blk_grown {W w' : World} {row : Option Nat} {b : Nat} {x : Obj} (h : W.heap[b]? = some x) (hg : W.grownBy w' row) (hne : some b ≠ row) : w'.heap[b]? = some x := (hg.block b (blk_lt h) hne).trans h
theorem own_base {W : World} {B B2 e s n : Nat} {v : Value} {xs : List Value} (h : W.ownsRow B e s v n xs) (hB : B2 ≤ B) : W.ownsRow B2 e s v n xs := by
  obtain ⟨h1, h2⟩ := h
  refine ⟨h1, ?_⟩
  rcases h2 with h2 | ⟨g, cap, cur, q1, q2, q3⟩
  · exact Or.inl h2
  · exact Or.inr ⟨g, cap, cur, q1, by omega, q3⟩
theorem own_step {W w2 : World} {B e s n : Nat} {v : Value} {xs : List Value} (h : W.ownsRow B e s v n xs) (hb : Below W.heap.size W w2) : w2.ownsRow B e s v n xs := by
  obtain ⟨h1, h2⟩ := h
  refine ⟨h1, ?_⟩
  rcases h2 with h2 | ⟨g, cap, cur, q1, q2, q3, q4⟩
  · exact Or.inl h2
  · exact Or.inr ⟨g, cap, cur, q1, q2, blk_step q3 hb, q4⟩
/-- A row: the element's type, its cells, the slice, how many, the cells. -/
structure Rw where
  E : TypeId
  sz : Nat
  v : Value
  n : Nat
  xs : List Value
def Rw.Own (W : World) (B : Nat) (r : Rw) : Prop := W.ownsRow B r.E r.sz r.v r.n r.xs
theorem Rw.Own.step {W w2 : World} {B : Nat} {r : Rw} (h : r.Own W B) (hb : Below W.heap.size W w2) : r.Own w2 B := own_step h hb
theorem Rw.Own.lt {W : World} {B : Nat} {r : Rw} (h : r.Own W B) : ∀ k, r.v.ownBlock = some k → B ≤ k ∧ k < W.heap.size := World.ownsRow.lt h
/-- The cells of an own row. -/
theorem Rw.Own.get {W : World} {B : Nat} {r : Rw} (h : r.Own W B) : ∃ a c, r.v = .slice a r.n c ∧ (r.n * r.sz ≠ 0 → ∃ g, a = some ⟨g, 0, none⟩ ∧ g < W.heap.size ∧ ∀ j u, r.xs[j]? = some u → W.cell? ⟨g, j, none⟩ = some u) := by
  obtain ⟨h1, h2⟩ := h
  rcases h2 with ⟨h2, h3⟩ | ⟨g, cap, cur, q1, q2, q3, q4, q5, q6, q7⟩
  · exact ⟨none, 0, by rw [h2, h3], fun h => absurd (by rw [h3, Nat.zero_mul]) h⟩
  · refine ⟨_, cap, q1, fun _ => ⟨g, rfl, blk_lt q3, fun j u hj => ?_⟩⟩
    have hjl := (List.getElem?_eq_some_iff.1 hj).1
    rw [← q7, List.getElem?_take_of_lt (by omega)] at hj
    exact blk_cell q3 (by simpa using hj)
def Far (u v : Value) : Prop := ∀ k, u.ownBlock = some k → v.ownBlock = some k → False
theorem Far.symm {u v : Value} (h : Far u v) : Far v u := fun k h1 h2 => h k h2 h1
theorem Far.ne {u v : Value} (h : Far u v) : u.ownBlock = none ∨ u.ownBlock ≠ v.ownBlock := by
  cases hu : u.ownBlock with
  | none => exact Or.inl rfl
  | some k => exact Or.inr fun e => h k hu e.symm
/-- Behind the world w: the own rows f, in blocks from B on, no two in one block; the objects L, in none of the rows' blocks. -/
structure MR (w : World) (B : Nat) (L : Nat → Option Obj) (f : Nat → Option Rw) (W : World) : Prop where
  hB : w.heap.size ≤ B
  bel : Below w.heap.size w W
  sz : B ≤ W.heap.size
  sb : ∀ p o, L p = some o → W.heap[p]? = some o
  hL : ∀ p o s r, L p = some o → f s = some r → r.v.ownBlock ≠ some p
  own : ∀ s r, f s = some r → r.Own W B
  far : ∀ s s' r r', s ≠ s' → f s = some r → f s' = some r' → Far r.v r'.v
section
variable {w W w2 w' : World} {B : Nat} {L L' : Nat → Option Obj} {f f' : Nat → Option Rw} {s : Nat} {r r' : Rw}
theorem MR.congr (h : MR w B L f W) (hf : ∀ s, f' s = f s) : MR w B L f' W := by
  obtain rfl : f' = f := funext hf
  exact h
theorem MR.congrL (h : MR w B L f W) (hf : ∀ s, L' s = L s) : MR w B L' f W := by
  obtain rfl : L' = L := funext hf
  exact h
theorem MR.less (h : MR w B L f W) (hf : ∀ s p, f' s = some p → f s = some p) : MR w B L f' W :=
  ⟨h.hB, h.bel, h.sz, h.sb, fun p o s r e e' => h.hL p o s r e (hf s r e'), fun s r e => h.own s r (hf s _ e), fun s s' r r' n e e' => h.far s s' r r' n (hf s _ e) (hf s' _ e')⟩
theorem MR.lessL (h : MR w B L f W) (hf : ∀ p o, L' p = some o → L p = some o) : MR w B L' f W :=
  ⟨h.hB, h.bel, h.sz, fun p o e => h.sb p o (hf p o e), fun p o s r e e' => h.hL p o s r (hf p o e) e', h.own, h.far⟩
theorem MR.drop (h : MR w B L f W) (s : Nat) : MR w B L (updF f s none) W := h.less fun t p e => by
  by_cases c : t = s
  · subst c; rw [updF_at] at e; cases e
  · rwa [updF_ne c] at e
/-- Rows under other names. -/
theorem MR.perm (h : MR w B L f W) (g : Nat → Nat) (hg : ∀ s s' r, s ≠ s' → f' s = some r → g s ≠ g s') (hf : ∀ s r, f' s = some r → f (g s) = some r) : MR w B L f' W :=
  ⟨h.hB, h.bel, h.sz, h.sb, fun p o s r e e' => h.hL p o (g s) r e (hf s r e'), fun s r e => h.own (g s) r (hf s r e), fun s s' r r' n e e' => h.far (g s) (g s') r r' (hg s s' r n e) (hf s r e) (hf s' r' e')⟩
theorem MR.start (hB : w.heap.size ≤ B) (hb : Below w.heap.size w W) (hs : B ≤ W.heap.size) (hL : ∀ p o, L p = some o → W.heap[p]? = some o) : MR w B L (fun _ => none) W :=
  ⟨hB, hb, hs, hL, (fun p o s r _ e => by cases e), (fun s r e => by cases e), (fun s s' r r' n e => by cases e)⟩
theorem MR.step (h : MR w B L f W) (hb : Below W.heap.size W w2) : MR w B L f w2 :=
  ⟨h.hB, bStep h.bel hb, Nat.le_trans h.sz hb.size, fun p o e => blk_step (h.sb p o e) hb, h.hL, fun s r e => (h.own s r e).step hb, h.far⟩
theorem MR.put (h : MR w B L f W) (s : Nat) (ho : r.Own W B) (hf : ∀ s' r', s' ≠ s → f s' = some r' → Far r.v r'.v) (hl : ∀ p o, L p = some o → r.v.ownBlock ≠ some p) : MR w B L (updF f s (some r)) W := by
  refine ⟨h.hB, h.bel, h.sz, h.sb, fun p o t r' e e' => ?_, fun t r' e => ?_, fun t t' r1 r2 n e e' => ?_⟩
  · by_cases c : t = s
    · subst c; rw [updF_at] at e'; cases e'; exact hl p o e
    · rw [updF_ne c] at e'; exact h.hL p o t r' e e'
  · by_cases c : t = s
    · subst c; rw [updF_at] at e; cases e; exact ho
    · rw [updF_ne c] at e; exact h.own t r' e
  · by_cases c : t = s
    · subst c
      rw [updF_at] at e
      rw [updF_ne (Ne.symm n)] at e'
      cases e
      exact hf t' r2 (Ne.symm n) e'
    · by_cases c' : t' = s
      · subst c'
        rw [updF_at] at e'
        rw [updF_ne c] at e
        cases e'
        exact (hf t r1 c e).symm
      · rw [updF_ne c] at e
        rw [updF_ne c'] at e'
        exact h.far t t' r1 r2 n e e'
/-- A row that lies in new blocks. -/
theorem MR.call (h : MR w B L f W) (s : Nat) (hb : Below W.heap.size W w2) (ho : r.Own w2 W.heap.size) : MR w B L (updF f s (some r)) w2 :=
  (h.step hb).put s (own_base ho h.sz) (fun s' r' _ e k e1 e2 => by
    have h1 := (ho.lt k e1).1
    have h2 := ((h.own s' r' e).lt k e2).2
    omega) fun p o e c => by
    have h1 := (ho.lt p c).1
    have h2 := blk_lt (h.sb p o e)
    omega
theorem own_fresh {cs : Array Value} {E sz n cap : Nat} (hl : cap ≤ maxLen) (hn : n ≤ cap) (hs : cs.size = cap * sz) : (⟨E, sz, .slice (some ⟨W.heap.size, 0, none⟩) n cap, n, cs.toList.take (n * sz)⟩ : Rw).Own (W.alloc (.cells cs E)) W.heap.size := by
  have hle : n * sz ≤ cs.size := by rw [hs]; exact Nat.mul_le_mul_right _ hn
  exact ⟨by simp [hle], Or.inr ⟨_, _, _, rfl, Nat.le_refl _, blk_new W _, hn, hl, hs, rfl⟩⟩
theorem MR.fresh (h : MR w B L f W) (s : Nat) (cs : Array Value) (E sz n : Nat) (hl : n ≤ maxLen) (hs : cs.size = n * sz) : MR w B L (updF f s (some ⟨E, sz, .slice (some ⟨W.heap.size, 0, none⟩) n n, n, cs.toList⟩)) (W.alloc (.cells cs E)) := by
  have h2 := own_fresh (W := W) (E := E) hl (Nat.le_refl _) hs
  rw [List.take_of_length_le (by simp [hs])] at h2
  exact h.call s bAl h2
/-- A row that has grown. -/
theorem MR.app (h : MR w B L f W) (s : Nat) (hs : f s = some r) (ho : r'.Own w' B) (hg : W.grownBy w' r.v.ownBlock) (hat : r'.v.ownBlock = r.v.ownBlock ∨ r'.v.ownBlock = some W.heap.size) : MR w B L (updF f s (some r')) w' := by
  have hB := h.hB
  have h0 := h.own s r hs
  have hr : ∀ k, r.v.ownBlock = some k → B ≤ k := fun k e => (h0.lt k e).1
  have h1 : MR w B L (updF f s none) w' := by
    refine ⟨h.hB, h.bel.grown hg (by have := h.bel.size; omega) fun k hk => by have := hr k hk; omega, Nat.le_trans h.sz hg.size, fun p o e => ?_, fun p o t r1 e e' => ?_, fun t r1 e => ?_, fun t t' r1 r2 n e e' => ?_⟩
    · exact blk_grown (h.sb p o e) hg fun c => h.hL p o s r e hs c.symm
    · by_cases c : t = s
      · subst c; rw [updF_at] at e'; cases e'
      · rw [updF_ne c] at e'; exact h.hL p o t r1 e e'
    · by_cases c : t = s
      · subst c; rw [updF_at] at e; cases e
      · rw [updF_ne c] at e
        exact World.ownsRow.kept (h.own t r1 e) hg (h.far t s r1 r c e hs).ne
    · by_cases c : t = s
      · subst c; rw [updF_at] at e; cases e
      · by_cases c' : t' = s
        · subst c'; rw [updF_at] at e'; cases e'
        · rw [updF_ne c] at e
          rw [updF_ne c'] at e'
          exact h.far t t' r1 r2 n e e'
  refine (h1.put s ho (fun s' r1 n e k e1 e2 => ?_) fun p o e c => ?_).congr fun t => ?_
  · rw [updF_ne n] at e
    rcases hat with q | q
    · exact h.far s s' r r1 (Ne.symm n) hs e k (q.symm.trans e1) e2
    · have := ((h.own s' r1 e).lt k e2).2
      rw [q] at e1
      simp at e1
      omega
  · rcases hat with q | q
    · exact h.hL p o s r e hs (q.symm.trans c)
    · rw [q] at c
      have := blk_lt (h.sb p o e)
      simp at c
      omega
  · by_cases c : t = s
    · subst c; rw [updF_at, updF_at]
    · rw [updF_ne c, updF_ne c, updF_ne c]
/-- A block that stays, made just now. -/
theorem MR.obj (h : MR w B L f W) (o : Obj) : MR w B (updF L W.heap.size (some o)) f (W.alloc o) := by
  have k := h.step (bAl (o := o))
  refine ⟨k.hB, k.bel, k.sz, fun p o' e => ?_, fun p o' s r e e' => ?_, k.own, k.far⟩
  · by_cases c : p = W.heap.size
    · subst c; rw [updF_at] at e; cases e; exact blk_new W _
    · rw [updF_ne c] at e; exact k.sb p o' e
  · by_cases c : p = W.heap.size
    · subst c
      intro c
      have := ((h.own s r e').lt _ c).2
      omega
    · rw [updF_ne c] at e; exact h.hL p o' s r e e'
/-- A block that a call has made stays. -/
theorem MR.got (h : MR w B L f W) (hb : Below W.heap.size W w2) {p : Nat} {o : Obj} (hp : W.heap.size ≤ p) (ho : w2.heap[p]? = some o) : MR w B (updF L p (some o)) f w2 := by
  have k := h.step hb
  refine ⟨k.hB, k.bel, k.sz, fun q o' e => ?_, fun q o' s r e e' => ?_, k.own, k.far⟩
  · by_cases c : q = p
    · subst c; rw [updF_at] at e; cases e; exact ho
    · rw [updF_ne c] at e; exact k.sb q o' e
  · by_cases c : q = p
    · subst c
      intro c
      have := ((h.own s r e').lt _ c).2
      omega
    · rw [updF_ne c] at e; exact h.hL q o' s r e e'
/-- A store into a block that stays. -/
theorem MR.store {p o : Nat} {u : Value} {cs : Array Value} {t : TypeId} (h : MR w B L f W) (hp : L p = some (.cells cs t (0, 0))) (hw : w.heap.size ≤ p) : MR w B (updF L p (some (.cells (cs.setIfInBounds o u) t (0, 0)))) f (W.setCell ⟨p, o, none⟩ u) := by
  refine ⟨h.hB, h.bel.setCell hw _, by simpa using h.sz, fun q ob e => ?_, fun q ob s r e e' => ?_, fun s r e => ownsRow_setCell_other (h.own s r e) (h.hL p _ s r hp e) _, h.far⟩
  · by_cases c : q = p
    · subst c; rw [updF_at] at e; cases e; exact blk_set (h.sb q _ hp)
    · rw [updF_ne c] at e; exact blk_set_other (h.sb q ob e) c
  · by_cases c : q = p
    · subst c; rw [updF_at] at e; cases e; exact h.hL q _ s r hp e'
    · rw [updF_ne c] at e; exact h.hL q ob s r e e'
end
/-- A slice whose cells lie in an object that stays. -/
def RdL (L : Nat → Option Obj) (v : Value) (n sz : Nat) (xs : List Value) : Prop := xs.length = n * sz ∧ ∃ a c, v = .slice a n c ∧ (n * sz ≠ 0 → ∃ p off cs t fr, a = some ⟨p, off, none⟩ ∧ L p = some (.cells cs t fr) ∧ ∀ j u, xs[j]? = some u → cs[off + j]? = some u)
theorem RdL.upd {L : Nat → Option Obj} {v : Value} {n sz p : Nat} {xs : List Value} {o : Obj} (h : RdL L v n sz xs) (hp : L p = none) : RdL (updF L p (some o)) v n sz xs := by
  obtain ⟨h0, a, c, h1, h2⟩ := h
  refine ⟨h0, a, c, h1, fun hn => ?_⟩
  obtain ⟨q, off, cs, t, fr, e1, e2, e3⟩ := h2 hn
  refine ⟨q, off, cs, t, fr, e1, ?_, e3⟩
  rw [updF_ne (fun c => by rw [c, hp] at e2; cases e2)]
  exact e2
theorem RdL.cells {w W : World} {B : Nat} {L : Nat → Option Obj} {f : Nat → Option Rw} {v : Value} {n sz : Nat} {xs : List Value} (h : MR w B L f W) (hr : RdL L v n sz xs) : ∃ a c, v = .slice a n c ∧ (n * sz ≠ 0 → ∃ p off, a = some ⟨p, off, none⟩ ∧ ∀ j u, xs[j]? = some u → W.cell? ⟨p, off + j, none⟩ = some u) := by
  obtain ⟨h0, a, c, h1, h2⟩ := hr
  refine ⟨a, c, h1, fun hn => ?_⟩
  obtain ⟨p, off, cs, t, fr, e1, e2, e3⟩ := h2 hn
  exact ⟨p, off, e1, fun j u hj => blk_cell (h.sb p _ e2) (e3 j u hj)⟩
section
variable {P : Program}
theorem firstCells_zero {x : Value} (h : ∃ a n c, x = .slice a n c) (size : Nat) (w : World) : (Builtin.firstCells size 0 x).run P w = .ok #[] w := by
  obtain ⟨a, n, c, rfl⟩ := h
  cases a with
  | none => rfl
  | some a =>
    simp only [Builtin.firstCells, Nat.zero_mul]
    have := run_firstCells_some (P := P) w size 0 a n c [] (by simp) (fun j x hx => by simp at hx)
    simpa [Builtin.firstCells] using this
theorem run_app_zero (w : World) (t ty e : TypeId) (i : TypeInfo) (ht : P.underlying t = some (.slice e)) (hi : P.info? e = some i) (base : Option Addr) (n cap : Nat) (h : n ≤ cap) (a : Option Addr) (c : Nat) :
    (Builtin.append_ #[t, t] ty #[.slice base n cap, .slice a 0 c]).run P w = .ok (.slice base n cap) w := by
  have hfc := firstCells_zero (P := P) ⟨a, 0, c, rfl⟩ i.size w
  cases base with
  | none => simp [Builtin.append_, run_underlying ht, sizeOf, typeInfo, hi, Builtin.lenOf, h, hfc]
  | some b => simp [Builtin.append_, run_underlying ht, sizeOf, typeInfo, hi, Builtin.lenOf, h, hfc, storeCells]
theorem add_at (p off j : Nat) : (⟨p, off, none⟩ : Addr).add j = ⟨p, off + j, none⟩ := by
  unfold Addr.add
  split
  · rename_i h; subst h; rfl
  · rfl
/-- append of a slice, which may be empty, to a row of the call's own. -/
theorem run_app (w : World) (base : Nat) (t ty e : TypeId) (i : TypeInfo) (z : Value) (size bytes : Nat) (ht : P.underlying t = some (.slice e)) (hi : P.info? e = some i) (hz : i.zero = some z)
    (hsize : i.size = size) (hby : i.bytes = bytes) (hzs : z.cells.size = size) (hsz : 0 < size)
    (v : Value) (n : Nat) (xs : List Value) (hown : w.ownsRow base e size v n xs)
    (a : Option Addr) (m c : Nat) (news : List Value) (hl : news.length = m * size) (hnews : m * size ≠ 0 → ∃ p off, a = some ⟨p, off, none⟩ ∧ ∀ j u, news[j]? = some u → w.cell? ⟨p, off + j, none⟩ = some u) (h1 : ∀ u ∈ news, u.oneCell' = true)
    (h63 : n + m ≤ maxLen) (hbytes : (n + m) * bytes ≤ 140737488355328) (hbase : base ≤ w.heap.size) :
    ∃ v' w', (Builtin.append_ #[t, t] ty #[v, .slice a m c]).run P w = .ok v' w' ∧ w'.ownsRow base e size v' (n + m) (xs ++ news) ∧ w.grownBy w' v.ownBlock ∧ (v'.ownBlock = v.ownBlock ∨ v'.ownBlock = some w.heap.size) := by
  by_cases hm : m = 0
  · subst hm
    obtain rfl : news = [] := List.eq_nil_of_length_eq_zero (by simpa using hl)
    refine ⟨v, w, ?_, by simpa using hown, ⟨rfl, rfl, rfl, Nat.le_refl _, fun _ _ _ => rfl⟩, Or.inl rfl⟩
    rcases hown.2 with ⟨rfl, h5⟩ | ⟨g, cap, cur, rfl, -, -, h4, -⟩
    · subst h5; exact run_app_zero w _ _ _ _ ht hi _ _ _ (Nat.le_refl _) _ _
    · exact run_app_zero w _ _ _ _ ht hi _ _ _ h4 _ _
  · obtain ⟨p, off, rfl, hc⟩ := hnews (Nat.mul_ne_zero hm (by omega))
    obtain ⟨v', w', q1, q2, q3, -, q5⟩ := run_append_own_at (P := P) w base t ty e i z size bytes ht hi hz hsize hby hzs hsz v n xs hown ⟨p, off, none⟩ m c news hl (fun j u hj => by rw [add_at]; exact hc j u hj) h1 h63 hbytes hbase
    exact ⟨v', w', q1, q2, q3, q5⟩
theorem wp_app (w : World) {o : Oper} {a : Act} {K : Act → World → Prop} {Q : Exit → Act → World → Prop} (s x : Operand) (t : TypeId) (ho : o.op = .call { callee := .builtin .append, args := #[s, x], argTypes := #[t, t] })
    (base : Nat) (e : TypeId) (i : TypeInfo) (z : Value) (size bytes : Nat) (ht : P.underlying t = some (.slice e)) (hi : P.info? e = some i) (hz : i.zero = some z)
    (hsize : i.size = size) (hby : i.bytes = bytes) (hzs : z.cells.size = size) (hsz : 0 < size)
    (v : Value) (n : Nat) (xs : List Value) (hs : a.eval s = v) (hown : w.ownsRow base e size v n xs)
    (ad : Option Addr) (m c : Nat) (news : List Value) (hx : a.eval x = .slice ad m c) (hl : news.length = m * size) (hnews : m * size ≠ 0 → ∃ p off, ad = some ⟨p, off, none⟩ ∧ ∀ j u, news[j]? = some u → w.cell? ⟨p, off + j, none⟩ = some u) (h1 : ∀ u ∈ news, u.oneCell' = true)
    (h63 : n + m ≤ maxLen) (hbytes : (n + m) * bytes ≤ 140737488355328) (hbase : base ≤ w.heap.size)
    (h : ∀ v' w', w'.ownsRow base e size v' (n + m) (xs ++ news) → w.grownBy w' v.ownBlock → (v'.ownBlock = v.ownBlock ∨ v'.ownBlock = some w.heap.size) → K (a.put o.dst v') w') : o.wp P a w K Q := by
  obtain ⟨v', w', hr, h2, h3, h5⟩ := run_app (P := P) w base t o.type e i z size bytes ht hi hz hsize hby hzs hsz v n xs hown ad m c news hl hnews h1 h63 hbytes hbase
  unfold Oper.wp execOp
  simp only [ho, resolve, invoke, builtin, Sem.run_bind, Sem.run_pure, Result.andThen_ok, List.map_toArray, List.map_cons, List.map_nil, hs, hx, hr]
  exact h v' w' h2 h3 h5
theorem wpList_app {ops : Array Oper} {rest : List Oper} (w : World) {o : Oper} {a : Act} {Q : Exit → Act → World → Prop} (hgd : o.guard = none) (s x : Operand) (t : TypeId) (ho : o.op = .call { callee := .builtin .append, args := #[s, x], argTypes := #[t, t] })
    (base : Nat) (e : TypeId) (i : TypeInfo) (z : Value) (size bytes : Nat) (ht : P.underlying t = some (.slice e)) (hi : P.info? e = some i) (hz : i.zero = some z)
    (hsize : i.size = size) (hby : i.bytes = bytes) (hzs : z.cells.size = size) (hsz : 0 < size)
    (v : Value) (n : Nat) (xs : List Value) (hs : a.eval s = v) (hown : w.ownsRow base e size v n xs)
    (ad : Option Addr) (m c : Nat) (news : List Value) (hx : a.eval x = .slice ad m c) (hl : news.length = m * size) (hnews : m * size ≠ 0 → ∃ p off, ad = some ⟨p, off, none⟩ ∧ ∀ j u, news[j]? = some u → w.cell? ⟨p, off + j, none⟩ = some u) (h1 : ∀ u ∈ news, u.oneCell' = true)
    (h63 : n + m ≤ maxLen) (hbytes : (n + m) * bytes ≤ 140737488355328) (hbase : base ≤ w.heap.size)
    (h : ∀ v' w', w'.ownsRow base e size v' (n + m) (xs ++ news) → w.grownBy w' v.ownBlock → (v'.ownBlock = v.ownBlock ∨ v'.ownBlock = some w.heap.size) → wpList P ops Q rest (a.put o.dst v') w') : wpList P ops Q (o :: rest) a w :=
  wpList_plain hgd fun _ hK => wp_app w s x t ho base e i z size bytes ht hi hz hsize hby hzs hsz v n xs hs hown ad m c news hx hl hnews h1 h63 hbytes hbase fun v' w' h2 h3 h5 => hK _ _ (h v' w' h2 h3 h5)
end
end Mr
end Go.Proofs.Ytladkknbkgomfaa

/-
  Drawn regions with calls: the class of the worlds behind a world.
-/
set_option linter.unusedSimpArgs false
set_option linter.unusedVariables false
namespace Go.Proofs.Ytladkknbkgomfaa
open Go.RowKit
def WStep (w : World) : Type := { W : World // Below w.heap.size w W }
instance (w : World) : Nonempty (WStep w) := ⟨⟨w, Below.refl _ _⟩⟩
theorem wp_region_step {P : Program} {id : Nat} {Q : Exit → Act → World → Prop} {a : Act} {w : World} {l : List Oper} (hm : P.follows .mixedOrders = true) (hB : Region.lexB .any l.toArray = true)
    (h : wpQuiet P l.toArray (fun W => ∃ s : WStep w, W = s.1) (fun a' => ∀ w', (∃ s : WStep w, w' = s.1) → Q .normal a' w') l a) : (Code.region id l.toArray true).wp P Q a w :=
  wp_region_quiet (C := fun W => ∃ s : WStep w, W = s.1) hm hB ⟨⟨w.drew, (Below.refl _ _).drew⟩, rfl⟩ (by simpa using h)
/-- A contract for each world behind w. -/
theorem step_call {P : Program} {f : FuncId} {args : Array Value} {w : World} {v : Value} (s : WStep w) (h : Calls P f args s.1 fun e w' => e = .returned v ∧ Below s.1.heap.size s.1 w') :
    Calls P f args s.1 fun e w' => e = .returned v ∧ ∃ t : WStep w, w' = t.1 := h.mono fun _ w' q => ⟨q.1, ⟨w', bStep s.2 q.2⟩, rfl⟩
end Go.Proofs.Ytladkknbkgomfaa
