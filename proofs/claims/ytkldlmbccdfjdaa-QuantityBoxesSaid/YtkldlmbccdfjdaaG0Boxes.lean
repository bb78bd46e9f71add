/-
  The plain arithmetic of layer 1 (quantity): x n / d for whole numbers, bit by bit, and rounded down; no program in sight.
-/
import Derived.WalkKit
import Derived.WalkSpells
import Derived.WalkLawsBesides
import Derived.Deep.QuietTactic
import Derived.BigQuiet
import Derived.Lib.Hide
import Derived.Deep.RegionHeld3
import Derived.Test.YtkldlmbccdfjdaaRows
set_option linter.unusedSimpArgs false
set_option linter.unusedVariables false
namespace Go.Proofs.Ytkldlmbccdfjdaa
namespace Pl

/-- What stands for a number far beyond a quantity. -/
def FAR : Int := 1152921504606846976
/-- From here on a partial quotient is far. -/
def LIM : Int := 288230376151711744
/-- The greatest quantity. -/
def MQ : Int := 1099511627776

theorem FAR_val : FAR = 1152921504606846976 := rfl
theorem LIM_val : LIM = 288230376151711744 := rfl
theorem MQ_val : MQ = 1099511627776 := rfl

/-- The quotient that 'divide' returns, for numbers from 0 on. -/
def dvq (x n d : Int) : Int := if LIM < x * n / d then FAR else x * n / d
/-- The rest that 'divide' returns. -/
def dvr (x n d : Int) : Int := if LIM < x * n / d then 0 else x * n % d

/-- The first i of 44 binary digits of n. -/
def top (n : Int) (i : Nat) : Int := n / 2 ^ (44 - i)

theorem top_zero {n : Int} (h0 : 0 ≤ n) (h : n < 17592186044416) : top n 0 = 0 := by
  unfold top
  exact Int.ediv_eq_zero_of_lt h0 (by simpa using h)
theorem top_end (n : Int) : top n 44 = n := by simp [top]
theorem top_nonneg {n : Int} (h0 : 0 ≤ n) (i : Nat) : 0 ≤ top n i := by
  unfold top
  exact Int.ediv_nonneg h0 (Int.le_of_lt (Int.pow_pos (by decide)))
theorem top_le {n : Int} (h0 : 0 ≤ n) (i : Nat) : top n i ≤ n := by
  unfold top
  exact Int.ediv_le_self _ h0
theorem top_step (n : Int) (i : Nat) (hi : i < 44) : top n (i + 1) = 2 * top n i + n / 2 ^ (43 - i) % 2 := by
  unfold top
  have e : 44 - i = (43 - i) + 1 := by omega
  have e' : 44 - (i + 1) = 43 - i := by omega
  rw [e, e', Int.pow_succ, ← Int.ediv_ediv_of_nonneg (Int.le_of_lt (Int.pow_pos (by decide)))]
  generalize n / 2 ^ (43 - i) = m
  omega

/-- One digit more: the quotient and the rest. -/
theorem digit {x d m b : Int} (hd : 0 < d) :
    let q := x * m / d; let r := x * m % d
    x * (2 * m + b) / d = 2 * q + b * (x / d) + (2 * r + b * (x % d)) / d ∧ x * (2 * m + b) % d = (2 * r + b * (x % d)) % d := by
  intro q r
  have h1 : x * m = q * d + r := by have := Int.emod_add_mul_ediv (x * m) d; show x * m = x * m / d * d + x * m % d; rw [Int.mul_comm (x * m / d)]; omega
  have h2 : x = x / d * d + x % d := by have := Int.emod_add_mul_ediv x d; rw [Int.mul_comm (x / d)]; omega
  have h3 : x * (2 * m + b) = (2 * r + b * (x % d)) + (2 * q + b * (x / d)) * d := by
    have e1 : x * (2 * m + b) = 2 * (x * m) + b * x := by rw [Int.mul_add, Int.mul_left_comm, Int.mul_comm x b]
    have e2 : b * x = b * (x / d) * d + b * (x % d) := by
      conv => lhs; rw [h2]
      rw [Int.mul_add, Int.mul_assoc]
    rw [e1, e2, h1, Int.mul_add, Int.add_mul, Int.mul_assoc 2 q d]
    omega
  rw [h3, Int.add_mul_ediv_right _ _ (by omega), Int.add_mul_emod_self_right]
  exact ⟨by omega, rfl⟩

theorem ediv_mono {a b d : Int} (hd : 0 < d) (h : a ≤ b) : a / d ≤ b / d := Int.ediv_le_ediv hd h
theorem mul_mono {x a b : Int} (hx : 0 ≤ x) (h : a ≤ b) : x * a ≤ x * b := Int.mul_le_mul_of_nonneg_left h hx
/-- If a part of the digits has a quotient that is far, so has the whole number. -/
theorem far_of_top {x n d : Int} {i : Nat} (hx : 0 ≤ x) (hn : 0 ≤ n) (hd : 0 < d) (h : LIM < x * top n i / d) : LIM < x * n / d :=
  Int.lt_of_lt_of_le h (ediv_mono hd (mul_mono hx (top_le hn i)))

end Pl
end Go.Proofs.Ytkldlmbccdfjdaa

/-
  Small facts on worlds that every walk of this claim uses.
-/
set_option linter.unusedSimpArgs false
set_option linter.unusedVariables false
namespace Go.Proofs.Ytkldlmbccdfjdaa
open Go.RowKit

/-! Contracts that leave the world alone, in a region that draws its order (behind a draw, or behind two). -/
theorem quiet_left {P : Program} {f : FuncId} {args : Array Value} {w : World} {n : Nat} {v : Value}
    (h : Calls P f args (w.drewN n) fun e w' => e = .returned v ∧ w.drewN n = w') : Calls P f args (w.drewN n) fun e w'' => e = .returned v ∧ ∃ m, w'' = w.drewN m :=
  h.mono fun _ _ ⟨he, hm⟩ => ⟨he, n, hm.symm⟩
theorem quiet_add_left {P : Program} {f : FuncId} {args : Array Value} {w : World} {a n : Nat} {v : Value}
    (h : Calls P f args (w.drewN (a + n)) fun e w' => e = .returned v ∧ w.drewN (a + n) = w') :
    Calls P f args (w.drewN (a + n)) fun e w'' => e = .returned v ∧ ∃ m, w'' = w.drewN (a + m) :=
  h.mono fun _ _ ⟨he, hm⟩ => ⟨he, n, hm.symm⟩

/-! What a call leaves of memory. -/
theorem bcell {W w1 : World} (hb : Below W.heap.size W w1) : (∀ b o, b < W.heap.size → w1.cell? ⟨b, o, none⟩ = W.cell? ⟨b, o, none⟩) ∧ (∀ b o, b < W.heap.size → w1.frozen? ⟨b, o, none⟩ = W.frozen? ⟨b, o, none⟩) :=
  ⟨fun b o h => hb.cell (p := ⟨b, o, none⟩) h, fun b o h => hb.frozen (p := ⟨b, o, none⟩) h⟩
theorem bAlloc {w b : World} (h : Below w.heap.size w b) (o : Obj) : Below w.heap.size w (b.alloc o) := h.alloc h.size o
theorem bStep {w b c : World} (h : Below w.heap.size w b) (k : Below b.heap.size b c) : Below w.heap.size w c := h.trans (k.mono h.size)
theorem bSet {w b : World} (h : Below w.heap.size w b) {p : Addr} (hp : w.heap.size ≤ p.block) (v : Value) : Below w.heap.size w (b.setCell p v) := h.setCell hp v
theorem bDrew {B : Nat} {w b : World} (h : Below B w b) : Below B w b.drew := h.drew
theorem bDrewN {B : Nat} {w b : World} {n : Nat} (h : Below B w b) : Below B w (b.drewN n) := ⟨h.os, h.tape, h.output, h.size, h.block⟩

/-! A block that is known whole: behind a store, a new block, a draw. -/
theorem blk_set {w : World} {b o : Nat} {v : Value} {cs : Array Value} {t : TypeId} {fr : Nat × Nat} (h : w.heap[b]? = some (.cells cs t fr)) :
    (w.setCell ⟨b, o, none⟩ v).heap[b]? = some (.cells (cs.setIfInBounds o v) t fr) := by
  simp [World.setCell, Array.getElem?_modify, h]
theorem blk_set_other {w : World} {b : Nat} {p : Addr} {v : Value} {x : Obj} (h : w.heap[b]? = some x) (hne : b ≠ p.block) : (w.setCell p v).heap[b]? = some x :=
  (Below.heap_setCell w p v b hne).trans h
theorem blk_lt {w : World} {b : Nat} {x : Obj} (h : w.heap[b]? = some x) : b < w.heap.size := by
  rcases Nat.lt_or_ge b w.heap.size with h1 | h1
  · exact h1
  · rw [Array.getElem?_eq_none h1] at h; cases h
theorem blk_alloc {w : World} {b : Nat} {o x : Obj} (h : w.heap[b]? = some x) : (w.alloc o).heap[b]? = some x :=
  (Below.heap_alloc w o b (blk_lt h)).trans h
theorem blk_new (w : World) (o : Obj) : (w.alloc o).heap[w.heap.size]? = some o := by
  show (w.heap.push o)[w.heap.size]? = _
  simp
theorem blk_below {B : Nat} {w w1 : World} {b : Nat} {x : Obj} (h : w.heap[b]? = some x) (hb : Below B w w1) (hB : b < B) : w1.heap[b]? = some x := (hb.block b hB).trans h
theorem blk_step {w w1 : World} {b : Nat} {x : Obj} (h : w.heap[b]? = some x) (hb : Below w.heap.size w w1) : w1.heap[b]? = some x := blk_below h hb (blk_lt h)
theorem blk_cell {w : World} {b o : Nat} {cs : Array Value} {t : TypeId} {fr : Nat × Nat} {v : Value} (h : w.heap[b]? = some (.cells cs t fr)) (hv : cs[o]? = some v) : w.cell? ⟨b, o, none⟩ = some v := by
  simp [World.cell?, h, hv]
theorem blk_free {w : World} {b o : Nat} {cs : Array Value} {t : TypeId} (h : w.heap[b]? = some (.cells cs t (0, 0))) : w.frozen? ⟨b, o, none⟩ = false := by
  simp [World.frozen?, h]

/-! Facts on cells that a region keeps: behind a call, a new block, a draw. -/
theorem cell_lt {W : World} {p : Addr} {v : Value} (h : W.cell? p = some v) : p.block < W.heap.size := by
  rcases Nat.lt_or_ge p.block W.heap.size with h1 | h1
  · exact h1
  · simp [World.cell?, Array.getElem?_eq_none h1] at h
theorem cell_step {W w2 : World} {p : Addr} {v : Value} (h : W.cell? p = some v) (hb : Below W.heap.size W w2) : w2.cell? p = some v := (hb.cell (cell_lt h)).trans h
theorem free_step {W w2 : World} {p : Addr} {v : Value} (h : W.cell? p = some v) (hf : W.frozen? p = false) (hb : Below W.heap.size W w2) : w2.frozen? p = false := (hb.frozen (cell_lt h)).trans hf
theorem cell_of_set {W : World} {a p : Addr} {v x : Value} (h : (W.setCell a v).cell? p = some x) : ∃ y, W.cell? p = some y := by
  cases hy : W.cell? p with
  | some y => exact ⟨y, rfl⟩
  | none =>
    exfalso
    revert h hy
    unfold World.cell? World.setCell
    simp only [Array.getElem?_modify]
    by_cases e : a.block = p.block
    · rw [if_pos e]
      cases W.heap[p.block]? with
      | none => simp
      | some o =>
        cases o <;> try simp
        rename_i c t f
        by_cases hp : p.spot.isSome = true <;> by_cases ha : a.spot.isSome = true <;> simp_all
        all_goals
          intros
          rcases Nat.lt_or_ge p.off c.size with h1 | h1
          · first | exact h1 | simp_all
          · simp_all
    · rw [if_neg e]
      intro h1 h2
      simp_all
/-- A box of two cells at r that will be written: whatever it holds. -/
def ResBox (r : Nat) (W : World) : Prop := (∃ x0 x1, W.cell? ⟨r, 0, none⟩ = some x0 ∧ W.cell? ⟨r, 1, none⟩ = some x1) ∧ W.frozen? ⟨r, 0, none⟩ = false ∧ W.frozen? ⟨r, 1, none⟩ = false
theorem ResBox.step {W w2 : World} {r : Nat} (h : ResBox r W) (hb : Below W.heap.size W w2) : ResBox r w2 := by
  obtain ⟨⟨x0, x1, h1, h2⟩, h3, h4⟩ := h
  exact ⟨⟨x0, x1, cell_step h1 hb, cell_step h2 hb⟩, free_step h1 h3 hb, free_step h2 h4 hb⟩
theorem ResBox.set {W : World} {r : Nat} (h : ResBox r W) (v0 v1 : Value) : ResBox r ((W.setCell ⟨r, 0, none⟩ v0).setCell ⟨r, 1, none⟩ v1) := by
  obtain ⟨⟨x0, x1, h1, h2⟩, h3, h4⟩ := h
  refine ⟨⟨v0, v1, ?_, ?_⟩, ?_, ?_⟩ <;> go_simp
/-- A parameter's box of two cells at b, and the result's box of two cells at r. -/
def Box1 (w : World) (b r : Nat) (v0 v1 : Value) (W : World) : Prop :=
  W.cell? ⟨b, 0, none⟩ = some v0 ∧ W.cell? ⟨b, 1, none⟩ = some v1 ∧ ResBox r W ∧ Below w.heap.size w W
theorem Box1.step {w W w2 : World} {b r : Nat} {v0 v1 : Value} (h : Box1 w b r v0 v1 W) (hb : Below W.heap.size W w2) : Box1 w b r v0 v1 w2 := by
  obtain ⟨h1, h2, h3, h7⟩ := h
  exact ⟨cell_step h1 hb, cell_step h2 hb, h3.step hb, bStep h7 hb⟩
theorem Box1.alloc {w W : World} {b r : Nat} {v0 v1 : Value} (h : Box1 w b r v0 v1 W) (o : Obj) : Box1 w b r v0 v1 (W.alloc o) := h.step ((Below.refl _ _).alloc (Nat.le_refl _) o)
theorem Box1.drew {w W : World} {b r : Nat} {v0 v1 : Value} (h : Box1 w b r v0 v1 W) : Box1 w b r v0 v1 W.drew := h.step (Below.refl _ _).drew
theorem cell_set_far {W : World} {b r o o' : Nat} {v x : Value} (h : W.cell? ⟨b, o, none⟩ = some x) (hne : b ≠ r) : (W.setCell ⟨r, o', none⟩ v).cell? ⟨b, o, none⟩ = some x :=
  (World.cell?_of_block (w := W) (Below.heap_setCell W _ _ _ hne)).trans h
theorem Box1.set {w W : World} {b r : Nat} {v0 v1 : Value} (h : Box1 w b r v0 v1 W) (hr : w.heap.size ≤ r) (hne : b ≠ r) (x0 x1 : Value) : Box1 w b r v0 v1 ((W.setCell ⟨r, 0, none⟩ x0).setCell ⟨r, 1, none⟩ x1) := by
  obtain ⟨h1, h2, h3, h7⟩ := h
  exact ⟨cell_set_far (cell_set_far h1 hne) hne, cell_set_far (cell_set_far h2 hne) hne, h3.set x0 x1, bSet (bSet h7 hr _) hr _⟩
/-- Two parameters' boxes at b, c, and the result's at r. -/
def Box2 (w : World) (b c r : Nat) (v0 v1 x0 x1 : Value) (W : World) : Prop :=
  W.cell? ⟨b, 0, none⟩ = some v0 ∧ W.cell? ⟨b, 1, none⟩ = some v1 ∧ W.cell? ⟨c, 0, none⟩ = some x0 ∧ W.cell? ⟨c, 1, none⟩ = some x1 ∧ ResBox r W ∧ Below w.heap.size w W
theorem Box2.step {w W w2 : World} {b c r : Nat} {v0 v1 x0 x1 : Value} (h : Box2 w b c r v0 v1 x0 x1 W) (hb : Below W.heap.size W w2) : Box2 w b c r v0 v1 x0 x1 w2 := by
  obtain ⟨h1, h2, k1, k2, h3, h7⟩ := h
  exact ⟨cell_step h1 hb, cell_step h2 hb, cell_step k1 hb, cell_step k2 hb, h3.step hb, bStep h7 hb⟩
theorem Box2.alloc {w W : World} {b c r : Nat} {v0 v1 x0 x1 : Value} (h : Box2 w b c r v0 v1 x0 x1 W) (o : Obj) : Box2 w b c r v0 v1 x0 x1 (W.alloc o) := h.step ((Below.refl _ _).alloc (Nat.le_refl _) o)
theorem Box2.drew {w W : World} {b c r : Nat} {v0 v1 x0 x1 : Value} (h : Box2 w b c r v0 v1 x0 x1 W) : Box2 w b c r v0 v1 x0 x1 W.drew := h.step (Below.refl _ _).drew
theorem Box2.set {w W : World} {b c r : Nat} {v0 v1 y0 y1 : Value} (h : Box2 w b c r v0 v1 y0 y1 W) (hr : w.heap.size ≤ r) (hne : b ≠ r) (hne2 : c ≠ r) (x0 x1 : Value) : Box2 w b c r v0 v1 y0 y1 ((W.setCell ⟨r, 0, none⟩ x0).setCell ⟨r, 1, none⟩ x1) := by
  obtain ⟨h1, h2, h4, h5, h3, h7⟩ := h
  exact ⟨cell_set_far (cell_set_far h1 hne) hne, cell_set_far (cell_set_far h2 hne) hne, cell_set_far (cell_set_far h4 hne2) hne2, cell_set_far (cell_set_far h5 hne2) hne2, h3.set x0 x1, bSet (bSet h7 hr _) hr _⟩

end Go.Proofs.Ytkldlmbccdfjdaa

/-
  The walks of the arithmetic of package quantity: is, below, sign, b2i, divide, down, up, fit.
-/
set_option linter.unusedSimpArgs false
set_option linter.unusedVariables false
namespace Go.Proofs.Ytkldlmbccdfjdaa
open Go.RowKit

def isQ (x : Int) : Bool := decide (-1099511627776 ≤ x) && decide (x ≤ 1099511627776)
theorem isQ_iff (x : Int) : isQ x = true ↔ -1099511627776 ≤ x ∧ x ≤ 1099511627776 := by simp [isQ]
theorem isQ_false (x : Int) : isQ x = false ↔ (x < -1099511627776 ∨ 1099511627776 < x) := by
  rw [← Bool.not_eq_true, isQ_iff]; omega
def sg (x : Int) : Int := if x < 0 then -1 else if 0 < x then 1 else 0

set_option maxHeartbeats 400000 in
theorem is_any (x : Int) (w : World) : Calls Try.prog 39 #[.int .i64 x] w fun e w' => e = .returned (.bool (isQ x)) ∧ w = w' := by
  have hq : isQ x = (decide (-1099511627776 ≤ x) && decide (x ≤ 1099511627776)) := rfl
  rw [hq]; clear hq
  go_enter Try.func39, Try.ntmps39
  go_wp2
  all_goals
    go_ret
    exact ⟨by simp [*] <;> omega, rfl⟩

set_option maxHeartbeats 400000 in
theorem sign_any (x : Int) (w : World) : Calls Try.prog 79 #[.int .i64 x] w fun e w' => e = .returned (.int .i64 (sg x)) ∧ w = w' := by
  unfold sg
  go_enter Try.func79, Try.ntmps79
  go_wp2
  all_goals
    go_ret
    exact ⟨by simp [*], rfl⟩

/-- 'a & 1' on an int64 that is not below 0. -/
theorem and_one_i64 (a : Int) (h0 : 0 ≤ a) (h1 : a ≤ 9223372036854775807) : bits BinOp.and IntKind.i64 a 1 = a % 2 := by
  obtain ⟨n, rfl⟩ := Int.eq_ofNat_of_zero_le h0
  have h2 : (BitVec.ofInt 64 (n : Int)).toNat = n := by
    rw [BitVec.ofInt_natCast, BitVec.toNat_ofNat]; exact Nat.mod_eq_of_lt (by omega)
  have h3 : (BitVec.ofInt 64 (1 : Int)).toNat = 1 := by rfl
  show IntKind.i64.wrap ((BitVec.ofInt 64 (n : Int) &&& BitVec.ofInt 64 (1 : Int)).toNat : Int) = _
  rw [BitVec.toNat_and, h2, h3, Nat.and_one_is_mod]
  have h4 : ((n % 2 : Nat) : Int) = (n : Int) % 2 := by omega
  rw [h4]
  exact IntWalk.i64_in _ (by omega)

set_option maxHeartbeats 400000 in
theorem divide_any (x n d : Int) (w : World) (hx0 : 0 ≤ x) (hx : x ≤ 4398046511104) (hn0 : 0 ≤ n) (hn : n ≤ 4398046511104) (hd0 : 1 ≤ d) (hd : d ≤ 4398046511104) :
    Calls Try.prog 78 #[.int .i64 x, .int .i64 n, .int .i64 d] w fun e w' => e = .returned (.tuple #[.int .i64 (Pl.dvq x n d), .int .i64 (Pl.dvr x n d)]) ∧ ∃ k, w.drewN k = w' := by
  by_cases h1 : x = 0
  · subst h1
    go_enter Try.func78, Try.ntmps78
    go_wp2
    go_ret2
    exact ⟨by simp [Pl.dvq, Pl.dvr, Pl.LIM], 0, rfl⟩
  by_cases h2 : n = 0
  · subst h2
    have h1' : (x == 0) = false := by simpa using h1
    clear h1
    go_enter Try.func78, Try.ntmps78
    go_wp2
    go_ret2
    exact ⟨by simp [Pl.dvq, Pl.dvr, Pl.LIM], 0, rfl⟩
  have h1' : (x == 0) = false := by simpa using h1
  have h2' : (n == 0) = false := by simpa using h2
  clear h1 h2
  go_enter Try.func78, Try.ntmps78
  go_wp2
  go_quiet (fail)
  go_wp2
  have hw1 : 0 ≤ x / d := Int.ediv_nonneg hx0 (by omega)
  have hw2 : x / d ≤ 4398046511104 := Int.le_trans (Int.ediv_le_self _ hx0) hx
  have hp1 : 0 ≤ x % d := Int.emod_nonneg _ (by omega)
  have hp2 : x % d < d := Int.emod_lt_of_pos _ (by omega)
  generalize hwh : x / d = wh at *
  generalize hpt : x % d = pt at *
  have Hwh := Lib.hid hwh
  have Hpt := Lib.hid hpt
  clear hwh hpt
  go_loop [10, 11, 25] (fun q r i => ∃ (k : Nat) (Q R : Int), k ≤ 44 ∧ i = .int .i64 k ∧ q = .int .i64 Q ∧ r = .int .i64 R ∧ 0 ≤ Q ∧ Q ≤ 288230376151711744 ∧ 0 ≤ R ∧ R < d ∧ Hid (x * Pl.top n k / d = Q ∧ x * Pl.top n k % d = R)) (fun _ _ i => 44 - (intOf i).toNat)
  case atStart => exact ⟨0, 0, 0, by omega, rfl, rfl, rfl, by omega, by omega, by omega, by omega, by rw [Pl.top_zero hn0 (by omega)]; simp [Hid]⟩
  case round =>
    obtain ⟨k, Q, R, hk, rfl, rfl, rfl, hQ0, hQ, hR0, hR, HQ⟩ := hrel
    by_cases hlt : k < 44
    · have e1 : 0 ≤ 2 * R / d := Int.ediv_nonneg (by omega) (by omega)
      have e2 : 2 * R / d ≤ 2 := Int.le_of_lt_add_one (Int.ediv_lt_of_lt_mul (by omega) (by omega))
      have e3 : 0 ≤ (2 * R + pt) / d := Int.ediv_nonneg (by omega) (by omega)
      have e4 : (2 * R + pt) / d ≤ 2 := Int.le_of_lt_add_one (Int.ediv_lt_of_lt_mul (by omega) (by omega))
      have hz : 0 ≤ n / 2 ^ (43 - k) := Int.ediv_nonneg hn0 (Int.le_of_lt (Int.pow_pos (by decide)))
      have hz2 : n / 2 ^ (43 - k) ≤ 9223372036854775807 := Int.le_trans (Int.ediv_le_self _ hn0) (by omega)
      have hb := and_one_i64 (n / 2 ^ (43 - k)) hz hz2
      have hts := Pl.top_step n k hlt
      obtain ⟨q1, q2⟩ := HQ.out
      rcases (show n / 2 ^ (43 - k) % 2 = 0 ∨ n / 2 ^ (43 - k) % 2 = 1 by omega) with hbit | hbit
      · have hbb : (bits BinOp.and IntKind.i64 (n / 2 ^ (43 - k)) 1 == 1) = false := by rw [hb, hbit]; rfl
        have HH : Hid (x * Pl.top n (k + 1) / d = 2 * Q + 2 * R / d ∧ x * Pl.top n (k + 1) % d = 2 * R % d) := by
          have hdg := Pl.digit (x := x) (d := d) (m := Pl.top n k) (b := 0) (by omega)
          rw [hts, hbit, hdg.1, hdg.2, q1, q2]
          simp [Hid]
        clear hb hts q1 q2 hbit hz hz2 e3 e4
        have hr1 : 0 ≤ 2 * R % d := Int.emod_nonneg _ (by omega)
        have hr2 : 2 * R % d < d := Int.emod_lt_of_pos _ (by omega)
        by_cases hf : 288230376151711744 < 2 * Q + 2 * R / d
        · go_wp2
          go_ret2
          have hfar := Pl.far_of_top (i := k + 1) hx0 hn0 (show 0 < d by omega) (by rw [HH.out.1]; exact hf)
          exact ⟨by simp [Pl.dvq, Pl.dvr, hfar, Pl.FAR], nq, rfl⟩
        · go_wp2
          go_round
          case rel => exact ⟨k + 1, _, _, by omega, by go_num, rfl, rfl, by omega, by omega, hr1, hr2, HH⟩
          case measure => simp [intOf]; omega
      · have hbb : (bits BinOp.and IntKind.i64 (n / 2 ^ (43 - k)) 1 == 1) = true := by rw [hb, hbit]; rfl
        have HH : Hid (x * Pl.top n (k + 1) / d = 2 * Q + wh + (2 * R + pt) / d ∧ x * Pl.top n (k + 1) % d = (2 * R + pt) % d) := by
          have hdg := Pl.digit (x := x) (d := d) (m := Pl.top n k) (b := 1) (by omega)
          rw [hts, hbit, hdg.1, hdg.2, q1, q2, Hwh.out, Hpt.out]
          simp [Hid]
        clear hb hts q1 q2 hbit hz hz2 e1 e2
        have hr1 : 0 ≤ (2 * R + pt) % d := Int.emod_nonneg _ (by omega)
        have hr2 : (2 * R + pt) % d < d := Int.emod_lt_of_pos _ (by omega)
        by_cases hf : 288230376151711744 < 2 * Q + wh + (2 * R + pt) / d
        · go_wp2
          go_ret2
          have hfar := Pl.far_of_top (i := k + 1) hx0 hn0 (show 0 < d by omega) (by rw [HH.out.1]; exact hf)
          exact ⟨by simp [Pl.dvq, Pl.dvr, hfar, Pl.FAR], nq, rfl⟩
        · go_wp2
          go_round
          case rel => exact ⟨k + 1, _, _, by omega, by go_num, rfl, rfl, by omega, by omega, hr1, hr2, HH⟩
          case measure => simp [intOf]; omega
    · go_wp2
      go_ret2
      obtain rfl : k = 44 := by omega
      have hq := HQ.out
      rw [Pl.top_end] at hq
      exact ⟨by simp [Pl.dvq, Pl.dvr, hq.1, hq.2, Pl.LIM]; omega, nq, rfl⟩

end Go.Proofs.Ytkldlmbccdfjdaa

/-
  The walks of down, up, fit, below, ratio's parts, and of their kin in the reference: Is, den, abs, whole, Down, Up, number.
-/
set_option linter.unusedSimpArgs false
set_option linter.unusedVariables false
namespace Go.Proofs.Ytkldlmbccdfjdaa
open Go.RowKit

theorem sg_mul (x : Int) : x * sg x = (x.natAbs : Int) := by
  unfold sg; split <;> (try split) <;> omega
theorem sg_bd (x : Int) : -1 ≤ sg x ∧ sg x ≤ 1 := by
  unfold sg; split <;> (try split) <;> omega

/-- x n / d, rounded down, as 'down' returns it: what is far is far. -/
def dn (x n d : Int) : Int :=
  if 0 ≤ sg x * sg n * sg d then Pl.dvq x.natAbs n.natAbs d.natAbs
  else if 0 < Pl.dvr x.natAbs n.natAbs d.natAbs then -(Pl.dvq x.natAbs n.natAbs d.natAbs + 1) else -(Pl.dvq x.natAbs n.natAbs d.natAbs)
def up (x n d : Int) : Int := - dn (-x) n d

theorem dvq_bd (x n d : Int) (hx : 0 ≤ x) (hn : 0 ≤ n) (hd : 1 ≤ d) : 0 ≤ Pl.dvq x n d ∧ Pl.dvq x n d ≤ 1152921504606846976 := by
  have h := Int.ediv_nonneg (Int.mul_nonneg hx hn) (show 0 ≤ d by omega)
  unfold Pl.dvq Pl.FAR Pl.LIM
  split <;> omega
theorem dvr_bd (x n d : Int) (hd : 1 ≤ d) : 0 ≤ Pl.dvr x n d ∧ Pl.dvr x n d < d := by
  have h1 := Int.emod_nonneg (x * n) (show d ≠ 0 by omega)
  have h2 := Int.emod_lt_of_pos (x * n) (show 0 < d by omega)
  unfold Pl.dvr
  split <;> omega

theorem mul_one_bd {a b : Int} (ha : -1 ≤ a ∧ a ≤ 1) (hb : -1 ≤ b ∧ b ≤ 1) : -1 ≤ a * b ∧ a * b ≤ 1 := by
  have h1 : a = -1 ∨ a = 0 ∨ a = 1 := by omega
  rcases h1 with rfl | rfl | rfl <;> omega

set_option maxHeartbeats 400000 in
theorem down_any (x n d : Int) (w : World) (hx0 : -4398046511104 ≤ x) (hx : x ≤ 4398046511104) (hn0 : -4398046511104 ≤ n) (hn : n ≤ 4398046511104) (hd0 : -4398046511104 ≤ d) (hd : d ≤ 4398046511104) (hdz : d ≠ 0) :
    Calls Try.prog 46 #[.int .i64 x, .int .i64 n, .int .i64 d] w fun e w' => e = .returned (.int .i64 (dn x n d)) ∧ ∃ k, w.drewN k = w' := by
  unfold dn
  have mx := sg_mul x
  have mn := sg_mul n
  have md := sg_mul d
  have ax : (x.natAbs : Int) ≤ 4398046511104 := by omega
  have an : (n.natAbs : Int) ≤ 4398046511104 := by omega
  have ad : (d.natAbs : Int) ≤ 4398046511104 := by omega
  have ad1 : 1 ≤ (d.natAbs : Int) := by omega
  have bx := sg_bd x
  have bn := sg_bd n
  have bd := sg_bd d
  generalize x.natAbs = X at *
  generalize n.natAbs = N at *
  generalize d.natAbs = D at *
  have b1 := dvq_bd X N D (by omega) (by omega) (by omega)
  have b2 := dvr_bd X N D (by omega)
  have hdiv := fun w => divide_any X N D w (by omega) ax (by omega) an ad1 ad
  generalize Pl.dvq X N D = q at *
  generalize Pl.dvr X N D = r at *
  have HD := Lib.hid hdiv
  clear hdiv
  have bs1 := mul_one_bd bx bn
  generalize hs1 : sg x * sg n = s1 at *
  have bs2 := mul_one_bd bs1 bd
  generalize hs2 : s1 * sg d = s2 at *
  obtain ⟨c1, c2⟩ := b1
  obtain ⟨c3, c4⟩ := b2
  obtain ⟨c5, c6⟩ := bs1
  obtain ⟨c7, c8⟩ := bs2
  go_enter Try.func46, Try.ntmps46
  go_wp2_with (first
    | (go_at_call 79; refine (sign_any _ _).mono ?_; rintro e w' ⟨rfl, rfl⟩)
    | (go_at_call 78; refine (HD.out _).mono ?_; rintro e w' ⟨rfl, k, rfl⟩))
  all_goals
    go_ret
    exact ⟨by simp [*], _, rfl⟩

theorem sub_div {a d : Int} (hd : 0 < d) : (a - d) / d = a / d - 1 ∧ (a - d) % d = a % d := by
  have e : a - d = a + (-1) * d := by omega
  rw [e, Int.add_mul_ediv_right _ _ (by omega), Int.add_mul_emod_self_right]
  exact ⟨by omega, rfl⟩

set_option maxHeartbeats 1000000 in
theorem whole_any (x n d : Int) (w : World) (hx0 : 0 ≤ x) (hx : x ≤ 4398046511104) (hn0 : 0 ≤ n) (hn : n ≤ 4398046511104) (hd0 : 1 ≤ d) (hd : d ≤ 4398046511104) :
    Calls Try.prog 80 #[.int .i64 x, .int .i64 n, .int .i64 d] w fun e w' => e = .returned (.tuple #[.int .i64 (Pl.dvq x n d), .int .i64 (Pl.dvr x n d)]) ∧ ∃ k, w.drewN k = w' := by
  have hw1 : 0 ≤ x / d := Int.ediv_nonneg hx0 (by omega)
  have hw2 : x / d ≤ 4398046511104 := Int.le_trans (Int.ediv_le_self _ hx0) hx
  have hp1 : 0 ≤ x % d := Int.emod_nonneg _ (by omega)
  have hp2 : x % d < d := Int.emod_lt_of_pos _ (by omega)
  generalize hwh : x / d = wh at *
  generalize hpt : x % d = pt at *
  have Hwh := Lib.hid hwh
  have Hpt := Lib.hid hpt
  go_enter Try.func80, Try.ntmps80
  go_wp2
  go_loopw [8, 9, 10] (fun q r i wr => ∃ (k nq : Nat) (Q R : Int), k ≤ 44 ∧ i = .int .i64 (43 - k) ∧ q = .int .i64 Q ∧ r = .int .i64 R ∧ 0 ≤ Q ∧ Q ≤ 288230376151711744 ∧ 0 ≤ R ∧ R < d ∧ wr = w.drewN nq ∧ Hid (x * Pl.top n k / d = Q ∧ x * Pl.top n k % d = R)) (fun _ _ i _ => (intOf i + 1).toNat)
  case atStart => exact ⟨0, 0, 0, 0, by omega, rfl, rfl, rfl, by omega, by omega, by omega, by omega, rfl, by rw [Pl.top_zero hn0 (by omega)]; simp [Hid]⟩
  case round =>
    obtain ⟨k, nq, Q, R, hk, rfl, rfl, rfl, hQ0, hQ, hR0, hR, rfl, HQ⟩ := hrel
    by_cases hlt : k < 44
    · have hz : 0 ≤ n / 2 ^ (43 - k) := Int.ediv_nonneg hn0 (Int.le_of_lt (Int.pow_pos (by decide)))
      have hts := Pl.top_step n k hlt
      obtain ⟨q1, q2⟩ := HQ.out
      rcases (show n / 2 ^ (43 - k) % 2 = 0 ∨ n / 2 ^ (43 - k) % 2 = 1 by omega) with hbit | hbit
      · have HH : Hid (x * Pl.top n (k + 1) / d = 2 * Q + 2 * R / d ∧ x * Pl.top n (k + 1) % d = 2 * R % d) := by
          have hdg := Pl.digit (x := x) (d := d) (m := Pl.top n k) (b := 0) (by omega)
          rw [hts, hbit, hdg.1, hdg.2, q1, q2]
          simp [Hid]
        clear hts q1 q2
        go_wp2
        go_loop [8, 9] (fun q r => ∃ (Q' R' : Int), q = .int .i64 Q' ∧ r = .int .i64 R' ∧ 0 ≤ R' ∧ R' ≤ 2 * R ∧ 0 ≤ Q' ∧ Q' + R' ≤ 2 * Q + (2 * R) ∧ Hid (Q' + R' / d = 2 * Q + (2 * R) / d ∧ R' % d = (2 * R) % d)) (fun _ r => (intOf r).toNat)
        case atStart => exact ⟨_, _, rfl, rfl, by omega, by omega, by omega, by omega, rfl, rfl⟩
        case round =>
          obtain ⟨Q', R', rfl, rfl, hR'0, hR'1, hQ'0, hQ'1, HQ'⟩ := hrel
          by_cases hge : d ≤ R'
          · go_wp2
            go_round
            case rel =>
              have hs := sub_div (a := R') (d := d) (by omega)
              have ho := HQ'.out
              exact ⟨_, _, rfl, rfl, by omega, by omega, by omega, by omega, by rw [Hid, hs.1, hs.2]; exact ⟨by omega, ho.2⟩⟩
            case measure => simp [intOf]; omega
          · have ho := HQ'.out
            have hz1 : R' / d = 0 := Int.ediv_eq_zero_of_lt (by omega) (by omega)
            have hz2 : R' % d = R' := Int.emod_eq_of_lt (by omega) (by omega)
            rw [hz1, hz2] at ho
            have HH2 : Hid (x * Pl.top n (k + 1) / d = Q' ∧ x * Pl.top n (k + 1) % d = R') := ⟨by rw [HH.out.1, ← ho.1]; omega, by rw [HH.out.2, ← ho.2]⟩
            clear ho hz1 hz2 HQ' HH
            by_cases hf : 288230376151711744 < Q'
            · go_wp2
              go_ret2
              have hfar := Pl.far_of_top (i := k + 1) hx0 hn0 (show 0 < d by omega) (by rw [HH2.out.1]; exact hf)
              exact ⟨by simp [Pl.dvq, Pl.dvr, hfar, Pl.FAR], nq, rfl⟩
            · go_wp2
              go_roundw
              case rel => exact ⟨k + 1, nq, _, _, by omega, by go_num, rfl, rfl, by omega, by omega, by omega, by omega, rfl, HH2⟩
              case measure => simp [intOf]; omega
      · have HH : Hid (x * Pl.top n (k + 1) / d = 2 * Q + wh + (2 * R + pt) / d ∧ x * Pl.top n (k + 1) % d = (2 * R + pt) % d) := by
          have hdg := Pl.digit (x := x) (d := d) (m := Pl.top n k) (b := 1) (by omega)
          rw [hts, hbit, hdg.1, hdg.2, q1, q2, Hwh.out, Hpt.out]
          simp [Hid]
        clear hts q1 q2
        go_wp2
        go_loop [8, 9] (fun q r => ∃ (Q' R' : Int), q = .int .i64 Q' ∧ r = .int .i64 R' ∧ 0 ≤ R' ∧ R' ≤ 2 * R + pt ∧ 0 ≤ Q' ∧ Q' + R' ≤ 2 * Q + wh + (2 * R + pt) ∧ Hid (Q' + R' / d = 2 * Q + wh + (2 * R + pt) / d ∧ R' % d = (2 * R + pt) % d)) (fun _ r => (intOf r).toNat)
        case atStart => exact ⟨_, _, rfl, rfl, by omega, by omega, by omega, by omega, rfl, rfl⟩
        case round =>
          obtain ⟨Q', R', rfl, rfl, hR'0, hR'1, hQ'0, hQ'1, HQ'⟩ := hrel
          by_cases hge : d ≤ R'
          · go_wp2
            go_round
            case rel =>
              have hs := sub_div (a := R') (d := d) (by omega)
              have ho := HQ'.out
              exact ⟨_, _, rfl, rfl, by omega, by omega, by omega, by omega, by rw [Hid, hs.1, hs.2]; exact ⟨by omega, ho.2⟩⟩
            case measure => simp [intOf]; omega
          · have ho := HQ'.out
            have hz1 : R' / d = 0 := Int.ediv_eq_zero_of_lt (by omega) (by omega)
            have hz2 : R' % d = R' := Int.emod_eq_of_lt (by omega) (by omega)
            rw [hz1, hz2] at ho
            have HH2 : Hid (x * Pl.top n (k + 1) / d = Q' ∧ x * Pl.top n (k + 1) % d = R') := ⟨by rw [HH.out.1, ← ho.1]; omega, by rw [HH.out.2, ← ho.2]⟩
            clear ho hz1 hz2 HQ' HH
            by_cases hf : 288230376151711744 < Q'
            · go_wp2
              go_ret2
              have hfar := Pl.far_of_top (i := k + 1) hx0 hn0 (show 0 < d by omega) (by rw [HH2.out.1]; exact hf)
              exact ⟨by simp [Pl.dvq, Pl.dvr, hfar, Pl.FAR], nq, rfl⟩
            · go_wp2
              go_roundw
              case rel => exact ⟨k + 1, nq, _, _, by omega, by go_num, rfl, rfl, by omega, by omega, by omega, by omega, rfl, HH2⟩
              case measure => simp [intOf]; omega
    · go_wp2
      go_ret2
      obtain rfl : k = 44 := by omega
      have hq := HQ.out
      rw [Pl.top_end] at hq
      exact ⟨by simp [Pl.dvq, Pl.dvr, hq.1, hq.2, Pl.LIM]; omega, nq, rfl⟩

end Go.Proofs.Ytkldlmbccdfjdaa

/-
  The walks of the functions of numbers of layer 1, and of their kin in the reference: below, fit, up, b2i, Floor, Ceil, Round; Is, den, abs, Down, Up, number, Floor, Ceil, Round.
-/
set_option linter.unusedSimpArgs false
set_option linter.unusedVariables false
namespace Go.Proofs.Ytkldlmbccdfjdaa
open Go.RowKit

def isDen (x : Int) : Bool := decide (1 ≤ x) && decide (x ≤ 1099511627776)
theorem isDen_iff (x : Int) : isDen x = true ↔ 1 ≤ x ∧ x ≤ 1099511627776 := by simp [isDen]
theorem isDen_false (x : Int) : isDen x = false ↔ (x < 1 ∨ 1099511627776 < x) := by
  rw [← Bool.not_eq_true, isDen_iff]; omega

/-- A result, or ErrOver. -/
def fitS (v : Int) : Int × Int := if isQ v = true then (v, 0) else (0, 4)
theorem fitS_yes {v : Int} (h : isQ v = true) : fitS v = (v, 0) := by simp [fitS, h]
theorem fitS_no {v : Int} (h : isQ v = false) : fitS v = (0, 4) := by simp [fitS, h]
/-- What the three functions do with a result. -/
def numS (x n d v : Int) : Int × Int := if isQ x = true ∧ isQ n = true ∧ isDen d = true then fitS v else (0, 2)
/-- x n / d + 1/2, rounded down. -/
def rnd (x n d : Int) : Int :=
  if 0 ≤ sg x * sg n then Pl.dvq x.natAbs n.natAbs d + (if d ≤ 2 * Pl.dvr x.natAbs n.natAbs d then 1 else 0)
  else -(Pl.dvq x.natAbs n.natAbs d + (if d < 2 * Pl.dvr x.natAbs n.natAbs d then 1 else 0))

theorem below_any (x : Int) (w : World) : Calls Try.prog 45 #[.int .i64 x] w fun e w' => e = .returned (.bool (isDen x)) ∧ w = w' := by
  have hq : isDen x = (decide (1 ≤ x) && decide (x ≤ 1099511627776)) := rfl
  rw [hq]; clear hq
  go_enter Try.func45, Try.ntmps45
  go_wp2
  all_goals
    go_ret
    exact ⟨by simp [*] <;> omega, rfl⟩
theorem Is_any (x : Int) (w : World) : Calls Try.prog 42 #[.int .i64 x] w fun e w' => e = .returned (.bool (isQ x)) ∧ w = w' := by
  have hq : isQ x = (decide (-1099511627776 ≤ x) && decide (x ≤ 1099511627776)) := rfl
  rw [hq]; clear hq
  go_enter Try.func42, Try.ntmps42
  go_wp2
  all_goals
    go_ret
    exact ⟨by simp [*] <;> omega, rfl⟩
theorem den_any (x : Int) (w : World) : Calls Try.prog 48 #[.int .i64 x] w fun e w' => e = .returned (.bool (isDen x)) ∧ w = w' := by
  have hq : isDen x = (decide (1 ≤ x) && decide (x ≤ 1099511627776)) := rfl
  rw [hq]; clear hq
  go_enter Try.func48, Try.ntmps48
  go_wp2
  all_goals
    go_ret
    exact ⟨by simp [*] <;> omega, rfl⟩
theorem fit_any (x : Int) (w : World) : Calls Try.prog 75 #[.int .i64 x] w fun e w' => e = .returned (.tuple #[.int .i64 (fitS x).1, .int .i64 (fitS x).2]) ∧ w = w' := by
  cases h : isQ x
  · rw [fitS_no h]
    go_enter Try.func75, Try.ntmps75
    go_wp2_with (go_at_call 39; refine (is_any _ _).mono ?_; rintro e w' ⟨rfl, rfl⟩)
    go_ret2
    exact ⟨rfl, rfl⟩
  · rw [fitS_yes h]
    go_enter Try.func75, Try.ntmps75
    go_wp2_with (go_at_call 39; refine (is_any _ _).mono ?_; rintro e w' ⟨rfl, rfl⟩)
    go_ret2
    exact ⟨rfl, rfl⟩
theorem abs_any (x : Int) (w : World) (h : -9223372036854775807 ≤ x) : Calls Try.prog 81 #[.int .i64 x] w fun e w' => e = .returned (.int .i64 (x.natAbs : Int)) ∧ w = w' := by
  by_cases h0 : x < 0
  · have e : (x.natAbs : Int) = -x := by omega
    rw [e]; clear e
    go_enter Try.func81, Try.ntmps81
    go_wp2
    go_ret
    exact ⟨rfl, rfl⟩
  · have e : (x.natAbs : Int) = x := by omega
    rw [e]; clear e
    go_enter Try.func81, Try.ntmps81
    go_wp2
    go_ret
    exact ⟨rfl, rfl⟩

theorem dn_bd (x n d : Int) (hd : d ≠ 0) : -1152921504606846977 ≤ dn x n d ∧ dn x n d ≤ 1152921504606846976 := by
  have h1 := dvq_bd x.natAbs n.natAbs d.natAbs (by omega) (by omega) (by omega)
  unfold dn
  split
  · omega
  · split <;> omega

theorem up_any (x n d : Int) (w : World) (hx0 : -4398046511104 ≤ x) (hx : x ≤ 4398046511104) (hn0 : -4398046511104 ≤ n) (hn : n ≤ 4398046511104) (hd0 : -4398046511104 ≤ d) (hd : d ≤ 4398046511104) (hdz : d ≠ 0) :
    Calls Try.prog 87 #[.int .i64 x, .int .i64 n, .int .i64 d] w fun e w' => e = .returned (.int .i64 (up x n d)) ∧ ∃ k, w.drewN k = w' := by
  obtain ⟨b1, b2⟩ := dn_bd (-x) n d hdz
  have H := Lib.hid (fun w => down_any (-x) n d w (by omega) (by omega) hn0 hn hd0 hd hdz)
  unfold up
  generalize dn (-x) n d = v at *
  go_enter Try.func87, Try.ntmps87
  go_wp2_with (go_at_call 46; refine (H.out _).mono ?_; rintro e w' ⟨rfl, k, rfl⟩)
  go_ret
  exact ⟨rfl, _, rfl⟩

theorem minus_sg (x n d : Int) : (bne (bne (decide (x < 0)) (decide (n < 0))) (decide (d < 0)) = true → x ≠ 0 → n ≠ 0 → d ≠ 0 → ¬ 0 ≤ sg x * sg n * sg d) ∧ (bne (bne (decide (x < 0)) (decide (n < 0))) (decide (d < 0)) = false → d ≠ 0 → 0 ≤ sg x * sg n * sg d) := by
  unfold sg
  by_cases h1 : x < 0 <;> by_cases h2 : n < 0 <;> by_cases h3 : d < 0 <;> by_cases h4 : 0 < x <;> by_cases h5 : 0 < n <;> by_cases h6 : 0 < d <;> simp [h1, h2, h3, h4, h5, h6] <;> omega

/-- What the reference's Down computes, out of the same parts. -/
def dnR (x n d : Int) : Int :=
  if bne (bne (decide (x < 0)) (decide (n < 0))) (decide (d < 0)) = true then (if 0 < Pl.dvr x.natAbs n.natAbs d.natAbs then -(Pl.dvq x.natAbs n.natAbs d.natAbs + 1) else -(Pl.dvq x.natAbs n.natAbs d.natAbs))
  else Pl.dvq x.natAbs n.natAbs d.natAbs
theorem dnR_eq (x n d : Int) (hd : d ≠ 0) : dnR x n d = dn x n d := by
  have h := minus_sg x n d
  unfold dnR dn
  by_cases hb : bne (bne (decide (x < 0)) (decide (n < 0))) (decide (d < 0)) = true
  · rw [if_pos hb]
    by_cases hx : x = 0
    · subst hx; simp [Pl.dvq, Pl.dvr, sg, Pl.LIM]
    by_cases hn : n = 0
    · subst hn; simp [Pl.dvq, Pl.dvr, sg, Pl.LIM]
    rw [if_neg (h.1 hb hx hn hd)]
  · rw [if_neg hb, if_pos (h.2 (by simpa using hb) hd)]

set_option maxHeartbeats 400000 in
theorem Down_any (x n d : Int) (w : World) (hx0 : -4398046511104 ≤ x) (hx : x ≤ 4398046511104) (hn0 : -4398046511104 ≤ n) (hn : n ≤ 4398046511104) (hd0 : -4398046511104 ≤ d) (hd : d ≤ 4398046511104) (hdz : d ≠ 0) :
    Calls Try.prog 49 #[.int .i64 x, .int .i64 n, .int .i64 d] w fun e w' => e = .returned (.int .i64 (dn x n d)) ∧ ∃ k, w.drewN k = w' := by
  rw [← dnR_eq x n d hdz]
  have hu : dnR x n d = if bne (bne (decide (x < 0)) (decide (n < 0))) (decide (d < 0)) = true then (if 0 < Pl.dvr x.natAbs n.natAbs d.natAbs then -(Pl.dvq x.natAbs n.natAbs d.natAbs + 1) else -(Pl.dvq x.natAbs n.natAbs d.natAbs)) else Pl.dvq x.natAbs n.natAbs d.natAbs := rfl
  rw [hu]; clear hu
  have b1 := dvq_bd x.natAbs n.natAbs d.natAbs (by omega) (by omega) (by omega)
  have b2 := dvr_bd x.natAbs n.natAbs d.natAbs (by omega)
  have H := Lib.hid (fun w => whole_any (x.natAbs : Int) (n.natAbs : Int) (d.natAbs : Int) w (by omega) (by omega) (by omega) (by omega) (by omega) (by omega))
  generalize Pl.dvq x.natAbs n.natAbs d.natAbs = q at *
  generalize Pl.dvr x.natAbs n.natAbs d.natAbs = r at *
  obtain ⟨c1, c2⟩ := b1
  obtain ⟨c3, c4⟩ := b2
  have a1 : -9223372036854775807 ≤ x := by omega
  have a2 : -9223372036854775807 ≤ n := by omega
  have a3 : -9223372036854775807 ≤ d := by omega
  cases h1 : decide (x < 0) <;> cases h2 : decide (n < 0) <;> cases h3 : decide (d < 0)
  all_goals
    simp only [bne_self_eq_false, Bool.bne_false, Bool.bne_true, Bool.not_true, Bool.not_false, reduceIte, Bool.false_eq_true]
    go_enter Try.func49, Try.ntmps49
    go_wp2_with (first
      | (go_at_call 81; refine (abs_any _ _ (by assumption)).mono ?_; rintro e w' ⟨rfl, rfl⟩)
      | (go_at_call 80; refine (H.out _).mono ?_; rintro e w' ⟨rfl, k, rfl⟩))
    all_goals
      go_ret
      exact ⟨by simp [*], _, rfl⟩

/-- The argument checks of the functions of numbers fail. -/
theorem numS_no {x n d v : Int} (h : ¬ (isQ x = true ∧ isQ n = true ∧ isDen d = true)) : numS x n d v = (0, 2) := if_neg h
theorem numS_yes {x n d v : Int} (h1 : isQ x = true) (h2 : isQ n = true) (h3 : isDen d = true) : numS x n d v = fitS v := if_pos ⟨h1, h2, h3⟩

theorem numS_n1 {x n d v : Int} (h : isQ x = false) : numS x n d v = (0, 2) := by simp [numS, h]
theorem numS_n2 {x n d v : Int} (h : isQ n = false) : numS x n d v = (0, 2) := by simp [numS, h]
theorem numS_n3 {x n d v : Int} (h : isDen d = false) : numS x n d v = (0, 2) := by simp [numS, h]

set_option maxHeartbeats 400000 in
theorem Floor_any (x n d : Int) (w : World) : Calls Try.prog 37 #[.int .i64 x, .int .i64 n, .int .i64 d] w fun e w' => e = .returned (.tuple #[.int .i64 (numS x n d (dn x n d)).1, .int .i64 (numS x n d (dn x n d)).2]) ∧ ∃ k, w.drewN k = w' := by
  cases h1 : isQ x
  · rw [numS_n1 h1]
    go_enter Try.func37, Try.ntmps37
    go_wp2_with (first | (go_at_call 39; refine (is_any _ _).mono ?_; rintro e w' ⟨rfl, rfl⟩) | (go_at_call 45; refine (below_any _ _).mono ?_; rintro e w' ⟨rfl, rfl⟩))
    go_ret2
    exact ⟨rfl, 0, rfl⟩
  cases h2 : isQ n
  · rw [numS_n2 h2]
    go_enter Try.func37, Try.ntmps37
    go_wp2_with (first | (go_at_call 39; refine (is_any _ _).mono ?_; rintro e w' ⟨rfl, rfl⟩) | (go_at_call 45; refine (below_any _ _).mono ?_; rintro e w' ⟨rfl, rfl⟩))
    go_ret2
    exact ⟨rfl, 0, rfl⟩
  cases h3 : isDen d
  · rw [numS_n3 h3]
    go_enter Try.func37, Try.ntmps37
    go_wp2_with (first | (go_at_call 39; refine (is_any _ _).mono ?_; rintro e w' ⟨rfl, rfl⟩) | (go_at_call 45; refine (below_any _ _).mono ?_; rintro e w' ⟨rfl, rfl⟩))
    go_ret2
    exact ⟨rfl, 0, rfl⟩
  rw [numS_yes h1 h2 h3]
  obtain ⟨q1, q2⟩ := (isQ_iff _).1 h1
  obtain ⟨q3, q4⟩ := (isQ_iff _).1 h2
  obtain ⟨q5, q6⟩ := (isDen_iff _).1 h3
  have H := Lib.hid (fun w => down_any x n d w (by omega) (by omega) (by omega) (by omega) (by omega) (by omega) (by omega))
  clear q1 q2 q3 q4 q5 q6
  generalize dn x n d = v at *
  go_enter Try.func37, Try.ntmps37
  go_wp2_with (first | (go_at_call 39; refine (is_any _ _).mono ?_; rintro e w' ⟨rfl, rfl⟩) | (go_at_call 45; refine (below_any _ _).mono ?_; rintro e w' ⟨rfl, rfl⟩) | (go_at_call 46; refine (H.out _).mono ?_; rintro e w' ⟨rfl, k, rfl⟩) | (go_at_call 75; refine (fit_any _ _).mono ?_; rintro e w' ⟨rfl, rfl⟩))
  go_ret2
  exact ⟨rfl, _, rfl⟩

end Go.Proofs.Ytkldlmbccdfjdaa

/-
  The walks of valid: the closure over one span, slices.IndexFunc and slices.ContainsFunc over a row of spans, valid itself.
-/
set_option linter.unusedSimpArgs false
set_option linter.unusedVariables false
namespace Go.Proofs.Ytkldlmbccdfjdaa
open Go.RowKit

/-- A valid span. -/
def okS (s : Int × Int) : Bool := isQ s.1 && isQ s.2 && decide (s.1 ≤ s.2)
theorem okS_iff (s : Int × Int) : okS s = true ↔ (isQ s.1 = true ∧ isQ s.2 = true ∧ s.1 ≤ s.2) := by simp [okS, and_assoc]
theorem okS_bd {s : Int × Int} (h : okS s = true) : -1099511627776 ≤ s.1 ∧ s.1 ≤ s.2 ∧ s.2 ≤ 1099511627776 := by
  obtain ⟨h1, h2, h3⟩ := (okS_iff s).1 h
  have := (isQ_iff _).1 h1
  have := (isQ_iff _).1 h2
  omega
theorem okS_mk {a b : Int} (h1 : -1099511627776 ≤ a) (h2 : a ≤ b) (h3 : b ≤ 1099511627776) : okS (a, b) = true :=
  (okS_iff _).2 ⟨(isQ_iff _).2 (by dsimp only; omega), (isQ_iff _).2 (by dsimp only; omega), h2⟩

set_option maxHeartbeats 400000 in
theorem valid1_any (a b : Int) (w : World) : Calls Try.prog 85 #[.agg #[.int .i64 a, .int .i64 b]] w fun e w' => e = .returned (.bool (!okS (a, b))) ∧ Below w.heap.size w w' := by
  have hq : okS (a, b) = (isQ a && isQ b && !decide (b < a)) := by
    unfold okS
    congr 1
    rw [Bool.eq_iff_iff]; simp
  rw [hq]; clear hq
  cases h1 : isQ a <;> cases h2 : isQ b <;> cases h3 : decide (b < a)
  all_goals
    go_enter Try.func85, Try.ntmps85
    go_wp2_with (go_at_call 39; refine (is_any _ _).mono ?_; rintro e w' ⟨rfl, rfl⟩)
    go_ret
    exact ⟨rfl, (by repeat' (first | exact Below.refl _ _ | assumption | apply bDrewN | apply bDrew | apply bAlloc | (refine bSet ?_ ?_ _) | (refine bStep ?_ (by assumption)) | omega | (simp <;> omega)))⟩

/-- A row of spans in memory. -/
def SpanCells (w : World) (b off : Nat) (l : List (Int × Int)) : Prop :=
  b < w.heap.size ∧ ∀ j, j < l.length → w.cell? ⟨b, off + j * 2, none⟩ = some (.int .i64 (l.getD j (0, 0)).1) ∧ w.cell? ⟨b, off + j * 2 + 1, none⟩ = some (.int .i64 (l.getD j (0, 0)).2)

set_option maxHeartbeats 400000 in
theorem indexFunc_spans (l : List (Int × Int)) (b off c : Nat) (w : World) (hl : l.length ≤ 9223372036854775807) (hc : SpanCells w b off l) :
    Calls Try.prog 88 #[.slice (some ⟨b, off, none⟩) l.length c, .func (.func 85) #[] #[]] w fun e w' => (∃ r : Int, e = .returned (.int .i64 r) ∧ (decide (0 ≤ r) = !(l.all okS))) ∧ Below w.heap.size w w' := by
  obtain ⟨hb, hc⟩ := hc
  go_enter Try.func88, Try.ntmps88
  go_wp2
  go_loopw [8] (fun i wr => ∃ k : Nat, k ≤ l.length ∧ i = .int .i64 k ∧ Below w.heap.size w wr ∧ Hid ((l.take k).all okS = true)) (fun i _ => l.length - (intOf i).toNat)
  case atStart => exact ⟨0, by omega, rfl, Below.refl _ _, by simp [Hid]⟩
  case round =>
    obtain ⟨k, hk, rfl, hB, HQ⟩ := hrel
    by_cases hlt : k < l.length
    · obtain ⟨g1, g2⟩ := hc k hlt
      rw [← hB.cell (p := ⟨b, off + k * 2, none⟩) hb] at g1
      rw [← hB.cell (p := ⟨b, off + k * 2 + 1, none⟩) hb] at g2
      clear hc
      go_wp2_with (go_at_call 85; refine (valid1_any _ _ _).mono ?_; rintro e w' ⟨rfl, hb1⟩)
      · go_ret
        refine ⟨⟨k, rfl, ?_⟩, (by repeat' (first | exact Below.refl _ _ | assumption | apply bDrewN | apply bDrew | apply bAlloc | (refine bSet ?_ ?_ _) | (refine bStep ?_ (by assumption)) | omega | (simp <;> omega)))⟩
        have hf : okS (l[k].fst, l[k].snd) = false := by simpa using ‹(!okS (l[k].fst, l[k].snd)) = true›
        have : l.all okS = false := by
          rw [List.all_eq_false]
          exact ⟨l[k], List.getElem_mem _, by simp [hf]⟩
        simp [this]
      · have hf : okS (l[k].fst, l[k].snd) = true := by simpa using ‹(!okS (l[k].fst, l[k].snd)) = false›
        go_roundw
        case rel =>
          refine ⟨k + 1, by omega, by go_num, (by repeat' (first | exact Below.refl _ _ | assumption | apply bDrewN | apply bDrew | apply bAlloc | (refine bSet ?_ ?_ _) | (refine bStep ?_ (by assumption)) | omega | (simp <;> omega))), ?_⟩
          rw [Hid, List.take_succ_eq_append_getElem hlt, List.all_append, HQ.out]
          simp [hf]
        case measure => simp [intOf]; omega
    · go_wp2
      go_ret
      obtain rfl : k = l.length := by omega
      have := HQ.out
      rw [List.take_length] at this
      exact ⟨⟨-1, rfl, by simp [this]⟩, (by repeat' (first | exact Below.refl _ _ | assumption | apply bDrewN | apply bDrew | apply bAlloc | (refine bSet ?_ ?_ _) | (refine bStep ?_ (by assumption)) | omega | (simp <;> omega)))⟩

set_option maxHeartbeats 400000 in
theorem indexFunc_spans_nil (a : Option Addr) (c : Nat) (w : World) :
    Calls Try.prog 88 #[.slice a 0 c, .func (.func 85) #[] #[]] w fun e w' => (e = .returned (.int .i64 (-1))) ∧ w = w' := by
  go_enter Try.func88, Try.ntmps88
  go_wp2
  refine wp_loop_once ?_
  go_wp2
  go_ret
  exact ⟨rfl, rfl⟩

set_option maxHeartbeats 400000 in
theorem containsFunc_spans (l : List (Int × Int)) (b off c : Nat) (w : World) (hl : l.length ≤ 9223372036854775807) (hc : SpanCells w b off l) :
    Calls Try.prog 84 #[.slice (some ⟨b, off, none⟩) l.length c, .func (.func 85) #[] #[]] w fun e w' => e = .returned (.bool (!(l.all okS))) ∧ Below w.heap.size w w' := by
  have H := Lib.hid (fun w hc => indexFunc_spans l b off c w hl hc)
  have Hc := Lib.hid hc
  clear hc
  go_enter Try.func84, Try.ntmps84
  go_wp2_with (go_at_call 88; refine (H.out _ Hc.out).mono ?_; rintro e w' ⟨⟨r, rfl, hr⟩, hb⟩)
  go_ret
  exact ⟨by simp [hr], (by repeat' (first | exact Below.refl _ _ | assumption | apply bDrewN | apply bDrew | apply bAlloc | (refine bSet ?_ ?_ _) | (refine bStep ?_ (by assumption)) | omega | (simp <;> omega)))⟩

set_option maxHeartbeats 400000 in
theorem containsFunc_spans_nil (a : Option Addr) (c : Nat) (w : World) :
    Calls Try.prog 84 #[.slice a 0 c, .func (.func 85) #[] #[]] w fun e w' => e = .returned (.bool false) ∧ w = w' := by
  go_enter Try.func84, Try.ntmps84
  go_wp2_with (go_at_call 88; refine (indexFunc_spans_nil _ _ _).mono ?_; rintro e w' ⟨rfl, rfl⟩)
  go_ret
  exact ⟨rfl, rfl⟩

set_option maxHeartbeats 400000 in
theorem valid_any (l : List (Int × Int)) (b off c : Nat) (w : World) (hl : l.length ≤ 9223372036854775807) (hc : SpanCells w b off l) :
    Calls Try.prog 54 #[.slice (some ⟨b, off, none⟩) l.length c] w fun e w' => e = .returned (.bool (l.all okS)) ∧ Below w.heap.size w w' := by
  have H := Lib.hid (fun w hc => containsFunc_spans l b off c w hl hc)
  have Hc := Lib.hid hc
  clear hc
  go_enter Try.func54, Try.ntmps54
  go_wp2_with (go_at_call 84; refine (H.out _ Hc.out).mono ?_; rintro e w' ⟨rfl, hb⟩)
  go_ret
  exact ⟨by simp, (by repeat' (first | exact Below.refl _ _ | assumption | apply bDrewN | apply bDrew | apply bAlloc | (refine bSet ?_ ?_ _) | (refine bStep ?_ (by assumption)) | omega | (simp <;> omega)))⟩

set_option maxHeartbeats 400000 in
theorem valid_nil (a : Option Addr) (c : Nat) (w : World) :
    Calls Try.prog 54 #[.slice a 0 c] w fun e w' => e = .returned (.bool true) ∧ w = w' := by
  go_enter Try.func54, Try.ntmps54
  go_wp2_with (go_at_call 84; refine (containsFunc_spans_nil _ _ _).mono ?_; rintro e w' ⟨rfl, rfl⟩)
  go_ret
  exact ⟨rfl, rfl⟩

/-! A row of one span, or of two, that the caller has just built. -/
theorem spanCells_one {w : World} {b off : Nat} {x y : Int} (hb : b < w.heap.size) (h0 : w.cell? ⟨b, off, none⟩ = some (.int .i64 x)) (h1 : w.cell? ⟨b, off + 1, none⟩ = some (.int .i64 y)) :
    SpanCells w b off [(x, y)] := ⟨hb, fun j hj => by
      have : j = 0 := by simpa using hj
      subst this
      exact ⟨by simpa using h0, by simpa using h1⟩⟩
theorem spanCells_two {w : World} {b : Nat} {x y z u : Int} (hb : b < w.heap.size) (h0 : w.cell? ⟨b, 0, none⟩ = some (.int .i64 x)) (h1 : w.cell? ⟨b, 1, none⟩ = some (.int .i64 y))
    (h2 : w.cell? ⟨b, 2, none⟩ = some (.int .i64 z)) (h3 : w.cell? ⟨b, 3, none⟩ = some (.int .i64 u)) :
    SpanCells w b 0 [(x, y), (z, u)] := ⟨hb, fun j hj => by
      have : j = 0 ∨ j = 1 := by simp at hj; omega
      rcases this with rfl | rfl
      · exact ⟨by simpa using h0, by simpa using h1⟩
      · exact ⟨by simpa using h2, by simpa using h3⟩⟩
/-- valid of one span. -/
theorem valid_one (x y : Int) (b c : Nat) (w : World) (hb : b < w.heap.size) (h0 : w.cell? ⟨b, 0, none⟩ = some (.int .i64 x)) (h1 : w.cell? ⟨b, 1, none⟩ = some (.int .i64 y)) :
    Calls Try.prog 54 #[.slice (some ⟨b, 0, none⟩) 1 c] w fun e w' => e = .returned (.bool (okS (x, y))) ∧ Below w.heap.size w w' :=
  (valid_any [(x, y)] b 0 c w (by simp) (spanCells_one hb h0 (by simpa using h1))).mono fun _ _ ⟨he, h⟩ => ⟨by simpa using he, h⟩
theorem valid_two (x y z u : Int) (b c : Nat) (w : World) (hb : b < w.heap.size) (h0 : w.cell? ⟨b, 0, none⟩ = some (.int .i64 x)) (h1 : w.cell? ⟨b, 1, none⟩ = some (.int .i64 y))
    (h2 : w.cell? ⟨b, 2, none⟩ = some (.int .i64 z)) (h3 : w.cell? ⟨b, 3, none⟩ = some (.int .i64 u)) :
    Calls Try.prog 54 #[.slice (some ⟨b, 0, none⟩) 2 c] w fun e w' => e = .returned (.bool (okS (x, y) && okS (z, u))) ∧ Below w.heap.size w w' :=
  (valid_any [(x, y), (z, u)] b 0 c w (by simp) (spanCells_two hb h0 h1 h2 h3)).mono fun _ _ ⟨he, h⟩ => ⟨by simpa using he, h⟩

/-! The same where the caller has just built the row: nothing to name. -/
theorem valid_oneN (X : World) (x y : Int) (t : TypeId) (fr : Nat × Nat) (b c : Nat) (hb : b = X.heap.size) :
    Calls Try.prog 54 #[.slice (some ⟨b, 0, none⟩) 1 c] (X.alloc (.cells #[.int .i64 x, .int .i64 y] t fr)) fun e w' => e = .returned (.bool (okS (x, y))) ∧ Below (X.alloc (.cells #[.int .i64 x, .int .i64 y] t fr)).heap.size (X.alloc (.cells #[.int .i64 x, .int .i64 y] t fr)) w' := by
  subst hb
  have h := blk_new X (.cells #[.int .i64 x, .int .i64 y] t fr)
  exact valid_one x y _ c _ (blk_lt h) (blk_cell h rfl) (blk_cell h rfl)
theorem valid_twoN (X : World) (x y z u : Int) (t : TypeId) (fr : Nat × Nat) (b c : Nat) (hb : b = X.heap.size) :
    Calls Try.prog 54 #[.slice (some ⟨b, 0, none⟩) 2 c] (X.alloc (.cells #[.int .i64 x, .int .i64 y, .int .i64 z, .int .i64 u] t fr)) fun e w' => e = .returned (.bool (okS (x, y) && okS (z, u))) ∧
      Below (X.alloc (.cells #[.int .i64 x, .int .i64 y, .int .i64 z, .int .i64 u] t fr)).heap.size (X.alloc (.cells #[.int .i64 x, .int .i64 y, .int .i64 z, .int .i64 u] t fr)) w' := by
  subst hb
  have h := blk_new X (.cells #[.int .i64 x, .int .i64 y, .int .i64 z, .int .i64 u] t fr)
  exact valid_two x y z u _ c _ (blk_lt h) (blk_cell h rfl) (blk_cell h rfl) (blk_cell h rfl) (blk_cell h rfl)

end Go.Proofs.Ytkldlmbccdfjdaa
