/-
  Rows of spans: what a slice of spans holds; the walks of valid, CheckBox, all, BoxInside over any row; SameBox.
-/
import Derived.Test.YtolnbblikfpnbaaDoorG1CurveTexts
import Derived.Test.YtolnbblikfpnbaaDoorG2CurveTexts
import Derived.OwnWalk
import Derived.Laws.AppendOwnNone
import Derived.Lib.LazyBuf
set_option linter.unusedSimpArgs false
set_option linter.unusedVariables false
namespace Go.Proofs.YtolnbblikfpnbaaDoor
open Go.RowKit

/-- The slice v reads as the list l. -/
def SpAt (a : Option Addr) (l : List (Int × Int)) (W : World) : Prop := l ≠ [] → ∃ b off, a = some ⟨b, off, none⟩ ∧ SpanCells W b off l
def SpRow (v : Value) (l : List (Int × Int)) (W : World) : Prop := ∃ (a : Option Addr) (c : Nat), v = .slice a l.length c ∧ SpAt a l W
theorem SpanCells.step {W w2 : World} {b off : Nat} {l : List (Int × Int)} (h : SpanCells W b off l) (hb : Below W.heap.size W w2) : SpanCells w2 b off l :=
  ⟨Nat.lt_of_lt_of_le h.1 hb.size, fun j hj => ⟨cell_step (h.2 j hj).1 hb, cell_step (h.2 j hj).2 hb⟩⟩
theorem SpRow.step {v : Value} {l : List (Int × Int)} {W w2 : World} (h : SpRow v l W) (hb : Below W.heap.size W w2) : SpRow v l w2 := by
  obtain ⟨a, c, rfl, h⟩ := h
  exact ⟨a, c, rfl, fun hn => by obtain ⟨b, off, rfl, hc⟩ := h hn; exact ⟨b, off, rfl, hc.step hb⟩⟩
theorem SpAt.step {a : Option Addr} {l : List (Int × Int)} {W w2 : World} (h : SpAt a l W) (hb : Below W.heap.size W w2) : SpAt a l w2 := fun hn => by
  obtain ⟨b, off, rfl, hc⟩ := h hn; exact ⟨b, off, rfl, hc.step hb⟩
theorem SpAt.row {a : Option Addr} {c : Nat} {l : List (Int × Int)} {W : World} (h : SpAt a l W) : SpRow (.slice a l.length c) l W := ⟨a, c, rfl, h⟩
theorem SpRow.nil {W : World} : SpRow (.slice none 0 0) [] W := ⟨none, 0, rfl, fun h => absurd rfl h⟩
theorem SpanCells.at_ {W : World} {b off : Nat} {l : List (Int × Int)} (h : SpanCells W b off l) {k : Nat} (hk : k < l.length) :
    W.cell? ⟨b, off + k * 2, none⟩ = some (.int .i64 (l[k]).1) ∧ W.cell? ⟨b, off + k * 2 + 1, none⟩ = some (.int .i64 (l[k]).2) := by
  have := h.2 k hk
  simpa [List.getD, List.getElem?_eq_getElem hk] using this

theorem valid_row (v : Value) (l : List (Int × Int)) (w : World) (hl : l.length ≤ 9223372036854775807) (h : SpRow v l w) :
    Calls Tryd.prog 18 #[v] w fun e w' => e = .returned (.bool (l.all okS)) ∧ Below w.heap.size w w' := by
  obtain ⟨a, c, rfl, h⟩ := h
  by_cases hn : l = []
  · subst hn
    exact (valid_nil a c w).mono fun e w' ⟨h1, h2⟩ => ⟨by simpa using h1, by subst h2; exact Below.refl _ _⟩
  · obtain ⟨b, off, rfl, hc⟩ := h hn
    exact valid_any l b off c w hl hc

/-- What CheckBox returns. -/
def checkB (l : List (Int × Int)) : Int := if 8 < l.length then 6 else if l.all okS = true then 0 else 2
theorem checkB_ok {l : List (Int × Int)} : checkB l = 0 ↔ l.length ≤ 8 ∧ l.all okS = true := by
  unfold checkB
  split
  · constructor
    · intro h; exact absurd h (by decide)
    · intro h; omega
  · split
    · rename_i h1 h2; exact ⟨fun _ => ⟨by omega, h2⟩, fun _ => rfl⟩
    · rename_i h1 h2; exact ⟨fun h => absurd h (by decide), fun h => absurd h.2 h2⟩
/-- The cells of two spans, from a world on. -/
def Four (b o : Nat) (x1 x2 : Int) (c p : Nat) (y1 y2 : Int) (w W : World) : Prop :=
  W.cell? ⟨b, o, none⟩ = some (.int .i64 x1) ∧ W.cell? ⟨b, o + 1, none⟩ = some (.int .i64 x2) ∧ W.cell? ⟨c, p, none⟩ = some (.int .i64 y1) ∧ W.cell? ⟨c, p + 1, none⟩ = some (.int .i64 y2) ∧ Below w.heap.size w W
theorem Four.step {b o c p : Nat} {x1 x2 y1 y2 : Int} {w W w2 : World} (h : Four b o x1 x2 c p y1 y2 w W) (hb : Below W.heap.size W w2) : Four b o x1 x2 c p y1 y2 w w2 := by
  obtain ⟨h1, h2, h3, h4, h5⟩ := h
  exact ⟨cell_step h1 hb, cell_step h2 hb, cell_step h3 hb, cell_step h4 hb, bStep h5 hb⟩
theorem bAl' {W : World} {o : Obj} : Below W.heap.size W (W.alloc o) := (Below.refl _ _).alloc (Nat.le_refl _) _

/-- What the closure of BoxHas says. -/
def hasP (x y : Int × Int) : Bool := hasS x y.1
/-- Two rows whose pairs are all so. -/
def allS (g : Int × Int → Int × Int → Bool) (l m : List (Int × Int)) : Bool := decide (checkB l = 0 ∧ checkB m = 0 ∧ l.length = m.length ∧ ∀ k, k < l.length → g (l.getD k (0, 0)) (m.getD k (0, 0)) = true)

end Go.Proofs.YtolnbblikfpnbaaDoor

/-
  Rows of spans that a function has made itself by append.
-/
set_option linter.unusedSimpArgs false
set_option linter.unusedVariables false
namespace Go.Proofs.YtolnbblikfpnbaaDoor
open Go.RowKit

def flatS (l : List (Int × Int)) : List Value := l.flatMap fun s => [.int .i64 s.1, .int .i64 s.2]
theorem flatS_cons (s : Int × Int) (l : List (Int × Int)) : flatS (s :: l) = .int .i64 s.1 :: .int .i64 s.2 :: flatS l := rfl
theorem flatS_len (l : List (Int × Int)) : (flatS l).length = l.length * 2 := by
  induction l with
  | nil => rfl
  | cons s l ih => rw [flatS_cons]; simp [ih]; omega
theorem flatS_get (l : List (Int × Int)) : ∀ k, k < l.length → (flatS l)[k * 2]? = some (.int .i64 (l.getD k (0, 0)).1) ∧ (flatS l)[k * 2 + 1]? = some (.int .i64 (l.getD k (0, 0)).2) := by
  induction l with
  | nil => intro k hk; simp at hk
  | cons s l ih =>
    intro k hk
    rw [flatS_cons]
    cases k with
    | zero => exact ⟨rfl, rfl⟩
    | succ k =>
      have := ih k (by simp at hk; omega)
      have e1 : (k + 1) * 2 = k * 2 + 1 + 1 := by omega
      rw [e1]
      simp only [List.getElem?_cons_succ, List.getD_cons_succ]
      exact this
theorem flatS_append (l m : List (Int × Int)) : flatS (l ++ m) = flatS l ++ flatS m := by simp [flatS]

/-- The slice v owns the row l, in a block from B on. -/
def SpOwn (W : World) (B : Nat) (v : Value) (l : List (Int × Int)) : Prop := W.ownsRow B 23 2 v l.length (flatS l)
theorem SpOwn.nil {W : World} {B : Nat} : SpOwn W B (.slice none 0 0) [] := ⟨rfl, Or.inl ⟨rfl, rfl⟩⟩
theorem SpOwn.step {W w2 : World} {B : Nat} {v : Value} {l : List (Int × Int)} (h : SpOwn W B v l) (hb : Below W.heap.size W w2) : SpOwn w2 B v l := by
  obtain ⟨h1, h2⟩ := h
  refine ⟨h1, ?_⟩
  rcases h2 with h2 | ⟨g, cap, cur, q1, q2, q3, q4⟩
  · exact Or.inl h2
  · exact Or.inr ⟨g, cap, cur, q1, q2, blk_step q3 hb, q4⟩
theorem SpOwn.at_ {W : World} {B : Nat} {v : Value} {l : List (Int × Int)} (h : SpOwn W B v l) : ∃ a c, v = .slice a l.length c ∧ SpAt a l W := by
  obtain ⟨h1, h2⟩ := h
  rcases h2 with ⟨rfl, h2⟩ | ⟨g, cap, cur, rfl, q2, q3, q4, q5, q6, q7⟩
  · refine ⟨none, 0, by rw [h2], fun hn => ?_⟩
    exact absurd (List.length_eq_zero_iff.1 h2) hn
  · refine ⟨_, _, rfl, fun _ => ⟨g, 0, rfl, blk_lt q3, fun j hj => ?_⟩⟩
    have hf := flatS_get l j hj
    rw [← q7] at hf
    rw [List.getElem?_take_of_lt (by omega), List.getElem?_take_of_lt (by omega)] at hf
    exact ⟨blk_cell q3 (by simpa using hf.1), blk_cell q3 (by simpa using hf.2)⟩
theorem SpOwn.row {W : World} {B : Nat} {v : Value} {l : List (Int × Int)} (h : SpOwn W B v l) : SpRow v l W := h.at_
theorem own_ge {W : World} {B e s : Nat} {v : Value} {n : Nat} {xs : List Value} (h : W.ownsRow B e s v n xs) : ∀ k, v.ownBlock = some k → B ≤ k := by
  intro k hk
  rcases h.2 with ⟨rfl, _⟩ | ⟨g, cap, cur, rfl, q2, _⟩
  · cases hk
  · cases hk; exact q2
theorem SpOwn.more {W : World} {B : Nat} {v : Value} {l : List (Int × Int)} {x y : Int} (h : W.ownsRow B 23 2 v (l.length + 1) (flatS l ++ [.int .i64 x, .int .i64 y])) : SpOwn W B v (l ++ [(x, y)]) := by
  unfold SpOwn
  rw [flatS_append, List.length_append]
  exact h

/-- A slice of whole numbers. -/
def IntAt (a : Option Addr) (xs : List Int) (W : World) : Prop := xs ≠ [] → ∃ b off, a = some ⟨b, off, none⟩ ∧ b < W.heap.size ∧ ∀ k, k < xs.length → W.cell? ⟨b, off + k, none⟩ = some (.int .i64 (xs.getD k 0))
def IntRow (v : Value) (xs : List Int) (W : World) : Prop := ∃ (a : Option Addr) (c : Nat), v = .slice a xs.length c ∧ IntAt a xs W
theorem IntAt.step {a : Option Addr} {xs : List Int} {W w2 : World} (h : IntAt a xs W) (hb : Below W.heap.size W w2) : IntAt a xs w2 := fun hn => by
  obtain ⟨b, off, rfl, h1, h2⟩ := h hn
  exact ⟨b, off, rfl, Nat.lt_of_lt_of_le h1 hb.size, fun k hk => cell_step (h2 k hk) hb⟩
theorem IntRow.step {v : Value} {xs : List Int} {W w2 : World} (h : IntRow v xs W) (hb : Below W.heap.size W w2) : IntRow v xs w2 := by
  obtain ⟨a, c, rfl, h⟩ := h
  exact ⟨a, c, rfl, h.step hb⟩
theorem IntAt.at_ {a : Option Addr} {xs : List Int} {W : World} (h : IntAt a xs W) {k : Nat} (hk : k < xs.length) : ∃ b off, a = some ⟨b, off, none⟩ ∧ W.cell? ⟨b, off + k, none⟩ = some (.int .i64 xs[k]) := by
  obtain ⟨b, off, rfl, _, h2⟩ := h (fun e => by rw [e] at hk; simp at hk)
  have := h2 k hk
  rw [List.getD_eq_getElem?_getD, List.getElem?_eq_getElem hk] at this
  exact ⟨b, off, rfl, this⟩

theorem infoSp : (Tryd.prog.info? 23).map (fun i => (i.zero, i.size, i.bytes)) = some (some (.agg #[.int .i64 0, .int .i64 0]), 2, 16) := by kernel_rfl

theorem two_cells (W : World) (x y : Int) (T : TypeId) : ∀ j u, [Value.int .i64 x, .int .i64 y][j]? = some u → (W.alloc (.cells #[.int .i64 x, .int .i64 y] T)).cell? ((⟨W.heap.size, 0, none⟩ : Addr).add j) = some u := by
  intro j u hj
  match j, hj with
  | 0, hj => simp at hj; subst hj; simp [Addr.add]
  | 1, hj => simp at hj; subst hj; simp [Addr.add]
theorem two_one (x y : Int) : ∀ u ∈ [Value.int .i64 x, .int .i64 y], u.oneCell' = true := by
  intro u hu
  simp at hu
  rcases hu with rfl | rfl <;> rfl

/-- What BoxHas returns. -/
def dup (x : Int) : Int × Int := (x, x)
def boxHasS (l : List (Int × Int)) (xs : List Int) : Bool := decide (xs.length = l.length ∧ checkB l = 0 ∧ ∀ k, k < l.length → hasS (l.getD k (0, 0)) (xs.getD k 0) = true)
theorem boxHas_all {l : List (Int × Int)} {xs : List Int} (h1 : xs.length = l.length) (h2 : checkB l = 0) : allS hasP l (xs.map dup) = boxHasS l xs := by
  have e1 : ∀ k, k < l.length → hasP (l.getD k (0, 0)) ((xs.map dup).getD k (0, 0)) = hasS (l.getD k (0, 0)) (xs.getD k 0) := by
    intro k hk
    have hk2 : k < xs.length := by omega
    unfold hasP
    congr 1
    simp [List.getD, List.getElem?_map, List.getElem?_eq_getElem hk2, dup]
  unfold allS boxHasS
  rw [decide_eq_decide]
  constructor
  · rintro ⟨q1, q2, q3, q4⟩
    exact ⟨h1, h2, fun k hk => by rw [← e1 k hk]; exact q4 k hk⟩
  · rintro ⟨_, _, q⟩
    refine ⟨h2, ?_, by simp [h1], fun k hk => by rw [e1 k hk]; exact q k hk⟩
    have h8 := (checkB_ok.1 h2).1
    refine checkB_ok.2 ⟨by simp; omega, ?_⟩
    rw [List.all_eq_true]
    intro s hs
    obtain ⟨x, hx, rfl⟩ := List.mem_map.1 hs
    obtain ⟨k, hk, rfl⟩ := List.getElem_of_mem hx
    have := q k (by omega)
    rw [List.getD_eq_getElem?_getD (l := xs), List.getElem?_eq_getElem hk] at this
    simp only [Option.getD_some] at this
    unfold hasS at this
    simp only [Bool.and_eq_true, decide_eq_true_eq] at this
    have ho := okS_bd this.1.1
    exact okS_mk (by omega) (by omega) (by omega)

end Go.Proofs.YtolnbblikfpnbaaDoor

/-
  The walk of CheckCurve.
-/
set_option linter.unusedSimpArgs false
set_option linter.unusedVariables false
namespace Go.Proofs.YtolnbblikfpnbaaDoor
open Go.RowKit Go.Shelf

theorem strange_any (x : Int) (w : World) : Calls Tryd.prog 42 #[.int .i64 x] w fun e w' => e = .returned (.bool (!isQ x)) ∧ w = w' := by
  have C := Lib.hid (fun w => is_any x w)
  generalize isQ x = r at *
  go_enter Tryd.func42, Tryd.ntmps42
  go_wp2_with (go_at_call 30; refine (C.out _).mono ?_; rintro e w' ⟨rfl, rfl⟩)
  go_ret
  exact ⟨rfl, rfl⟩

set_option maxHeartbeats 400000 in
theorem indexFunc_ints (xs : List Int) (a : Option Addr) (c : Nat) (w : World) (hl : xs.length ≤ 1000000) (hA : IntAt a xs w) :
    Calls Tryd.prog 57 #[.slice a xs.length c, .func (.func 42) #[] #[]] w fun e w' => (∃ r : Int, e = .returned (.int .i64 r) ∧ (decide (0 ≤ r) = !(xs.all isQ))) ∧ w = w' := by
  have HA := Lib.hid hA
  clear hA
  go_enter Tryd.func57, Tryd.ntmps57
  go_wp2
  go_loopw [8] (fun i wr => ∃ k : Nat, k ≤ xs.length ∧ i = .int .i64 k ∧ wr = w ∧ Hid ((xs.take k).all isQ = true)) (fun i _ => xs.length - (intOf i).toNat)
  case atStart => exact ⟨0, by omega, rfl, rfl, by simp [Hid]⟩
  case round =>
    obtain ⟨k, hk, rfl, rfl, HQ⟩ := hrel
    by_cases hlt : k < xs.length
    · obtain ⟨b, off, rfl, g1⟩ := HA.out.at_ hlt
      have HS : Hid (isQ xs[k] = true → (xs.take (k + 1)).all isQ = true) := by
        intro h
        rw [List.take_succ_eq_append_getElem hlt, List.all_append, HQ.out]
        simp [h]
      have HN : Hid (isQ xs[k] = false → xs.all isQ = false) := by
        intro h
        rw [List.all_eq_false]
        exact ⟨xs[k], List.getElem_mem _, by simp [h]⟩
      have C := Lib.hid (fun w => strange_any xs[k] w)
      generalize isQ xs[k] = q at *
      generalize xs[k] = x at *
      clear HQ HA
      cases q
      all_goals
        go_wp2_with (go_at_call 42; refine (C.out _).mono ?_; rintro e w' ⟨rfl, rfl⟩)
      · go_ret
        exact ⟨⟨k, rfl, by rw [HN.out (by first | rfl | trivial)]; simp⟩, by first | rfl | trivial⟩
      · go_roundw
        case rel => exact ⟨k + 1, by omega, by go_num, by first | rfl | trivial, HS.out (by first | rfl | trivial)⟩
        case measure => (simp [intOf]; omega)
    · go_wp2
      go_ret
      obtain rfl : k = xs.length := by omega
      have := HQ.out
      rw [List.take_length] at this
      exact ⟨⟨-1, rfl, by simp [this]⟩, rfl⟩

set_option maxHeartbeats 400000 in
theorem containsFunc_ints (xs : List Int) (a : Option Addr) (c : Nat) (w : World) (hl : xs.length ≤ 1000000) (hA : IntAt a xs w) :
    Calls Tryd.prog 43 #[.slice a xs.length c, .func (.func 42) #[] #[]] w fun e w' => e = .returned (.bool (!(xs.all isQ))) ∧ w = w' := by
  have H := Lib.hid (fun w hA => indexFunc_ints xs a c w hl hA)
  have HA := Lib.hid hA
  clear hA
  go_enter Tryd.func43, Tryd.ntmps43
  go_wp2_with (go_at_call 57; refine (H.out _ HA.out).mono ?_; rintro e w' ⟨⟨r, rfl, hr⟩, rfl⟩)
  go_ret
  exact ⟨by simp [hr], rfl⟩

/-- What CheckCurve returns. -/
def preC (xs ys : List Int) : Prop := xs.length = ys.length ∧ 2 ≤ xs.length ∧ xs.all isQ = true ∧ ys.all isQ = true
def rising (xs ys : List Int) (k : Nat) : Prop := xs.getD k 0 < xs.getD (k + 1) 0 ∧ ys.getD k 0 ≤ ys.getD (k + 1) 0
instance (xs ys : List Int) : Decidable (preC xs ys) := by unfold preC; infer_instance
instance (xs ys : List Int) (k : Nat) : Decidable (rising xs ys k) := by unfold rising; infer_instance
def goodC (xs ys : List Int) : Prop := preC xs ys ∧ ∀ k, k < xs.length - 1 → rising xs ys k
instance (xs ys : List Int) : Decidable (goodC xs ys) := by unfold goodC; infer_instance
def checkC (xs ys : List Int) : Int := if 64 < max xs.length ys.length then 6 else if goodC xs ys then 0 else 2
theorem allQ_getD {xs : List Int} (h : xs.all isQ = true) (k : Nat) : -1099511627776 ≤ xs.getD k 0 ∧ xs.getD k 0 ≤ 1099511627776 := by
  rw [List.getD_eq_getElem?_getD]
  cases hx : xs[k]? with
  | none => simp
  | some x =>
    have := (List.all_eq_true.1 h) x (List.mem_of_getElem? hx)
    simpa using (isQ_iff x).1 this

/-- pieces: the curve is boxed, and the iterator holds on to the box. -/
theorem pieces_in (F : Fence) (n : Nat) (hf : F.fn 44) (hro : F.round = none) (sx sy : Value) (w : World) (h1 : sx.cells.size = 1) (h2 : sy.cells.size = 1) :
    CallsIn F n Tryd.prog 44 #[.agg #[sx, sy]] w fun e w' => e = .returned (.func (.func 58) #[] #[.pointer (some ⟨w.heap.size, 0, none⟩)]) ∧ w' = w.alloc (.cells #[sx, sy] 33) := by
  refine callsIn_of_wp Tryd.func44 rfl hf ?_ hro
  simp only [Tryd.ntmps44, List.size_toArray, List.length_cons, List.length_nil, Nat.reduceAdd, Nat.reduceSub, Array.replicate_succ, Array.replicate_zero, List.push_toArray, List.append_toArray, List.nil_append, List.cons_append]
  gi_wp2
  go_ret
  exact ⟨rfl, rfl⟩

theorem grown_drew (W : World) : W.grownBy W.drew none := ⟨rfl, rfl, rfl, Nat.le_refl _, fun _ _ _ => rfl⟩
theorem pieces_stops (F : Fence) (n : Nat) (hf : F.fn 58) (hro : F.round = none) (hn : 1 ≤ n) (Bs n₀ bu ou cu bv ov cv len : Nat) (xs ys : List Int) (h2 : 2 ≤ len) (hlen : len ≤ 1000000) (hB : Bs < n₀) (hbu : bu < n₀) (hbv : bv < n₀)
    (hq : ∀ k, -1099511627776 ≤ xs.getD k 0 ∧ xs.getD k 0 ≤ 1099511627776 ∧ -1099511627776 ≤ ys.getD k 0 ∧ ys.getD k 0 ≤ 1099511627776) (w : World) (hnw : n₀ ≤ w.heap.size)
    (hX : w.cell? ⟨Bs, 0, none⟩ = some (.slice (some ⟨bu, ou, none⟩) len cu)) (hY : w.cell? ⟨Bs, 1, none⟩ = some (.slice (some ⟨bv, ov, none⟩) len cv))
    (hcx : ∀ k, k < len → w.cell? ⟨bu, ou + k, none⟩ = some (.int .i64 (xs.getD k 0))) (hcy : ∀ k, k < len → w.cell? ⟨bv, ov + k, none⟩ = some (.int .i64 (ys.getD k 0))) :
    SeqStopsK F n Tryd.prog 58 #[.pointer (some ⟨Bs, 0, none⟩)] (pcs xs ys) (Below n₀) (fun l => l = List.range (len - 1)) (fun pre => ∃ k, k ≤ len - 1 ∧ pre = List.range k) (len - 1) w := fun l J Jx W hW hJ _ hYY h0 => by
  have hW0 := hW.mono hnw
  exact pieces1_in F n hf hro hn l Bs n₀ bu ou cu bv ov cv len xs ys h2 hlen hB hbu hbv hq J Jx hYY (fun pre W1 h => hJ pre W1 W1.drew none h (grown_drew W1) (fun r e => by cases e)) W
    ((hW0.cell (p := ⟨Bs, 0, none⟩) hB).trans hX) ((hW0.cell (p := ⟨Bs, 1, none⟩) hB).trans hY) (fun k hk => (hW0.cell (p := ⟨bu, ou + k, none⟩) hbu).trans (hcx k hk)) (fun k hk => (hW0.cell (p := ⟨bv, ov + k, none⟩) hbv).trans (hcy k hk)) h0

end Go.Proofs.YtolnbblikfpnbaaDoor

/-
  The walk of CheckCurve: the loop over the pieces.
-/
set_option linter.unusedSimpArgs false
set_option linter.unusedVariables false
namespace Go.Proofs.YtolnbblikfpnbaaDoor
open Go.RowKit Go.Shelf
attribute [local go_sem] Oper.semAt_some

set_option maxRecDepth 100000 in
set_option maxHeartbeats 4000000 in
theorem CheckCurve_pre (bu ou cu bv ov cv : Nat) (xs ys : List Int) (w : World) (hx : xs.length ≤ 64) (hpre : preC xs ys) (hA : IntAt (some ⟨bu, ou, none⟩) xs w) (hB : IntAt (some ⟨bv, ov, none⟩) ys w) :
    CallsIn Fence.wide 5 Tryd.prog 25 #[.agg #[.slice (some ⟨bu, ou, none⟩) xs.length cu, .slice (some ⟨bv, ov, none⟩) xs.length cv]] w fun e w' => e = .returned (.int .i64 (checkC xs ys)) ∧ Below w.heap.size w w' := by
  obtain ⟨p1, p2, p3, p4⟩ := hpre
  have hne : xs ≠ [] := fun e => by rw [e] at p2; simp at p2
  have hne2 : ys ≠ [] := fun e => by rw [e] at p1; rw [p1] at p2; simp at p2
  obtain ⟨_, _, e1, hbu, hcx⟩ := hA hne
  cases e1
  obtain ⟨_, _, e2, hbv, hcy⟩ := hB hne2
  cases e2
  have hq : ∀ k, -1099511627776 ≤ xs.getD k 0 ∧ xs.getD k 0 ≤ 1099511627776 ∧ -1099511627776 ≤ ys.getD k 0 ∧ ys.getD k 0 ≤ 1099511627776 := fun k => ⟨(allQ_getD p3 k).1, (allQ_getD p3 k).2, (allQ_getD p4 k).1, (allQ_getD p4 k).2⟩
  have C1 := Lib.hid (fun w h => containsFunc_ints xs (some ⟨bu, ou, none⟩) cu w (by omega) h)
  have C2 := Lib.hid (fun w h => containsFunc_ints ys (some ⟨bv, ov, none⟩) cv w (by omega) h)
  rw [← p1] at C2 hcy
  rw [p3] at C1
  rw [p4] at C2
  have hck : Hid ((checkC xs ys = 0 ↔ ∀ k, k < xs.length - 1 → rising xs ys k) ∧ ((∃ k, k < xs.length - 1 ∧ ¬ rising xs ys k) → checkC xs ys = 2)) := by
    unfold checkC
    rw [if_neg (by omega)]
    constructor
    · constructor
      · intro h
        split at h
        · rename_i hg; exact hg.2
        · exact absurd h (by decide)
      · intro h
        rw [if_pos ⟨⟨p1, p2, p3, p4⟩, h⟩]
    · rintro ⟨k, hk, hr⟩
      rw [if_neg (fun hg => hr (hg.2 k hk))]
  generalize checkC xs ys = r at *
  have HA := Lib.hid hA
  have HB := Lib.hid hB
  have HQ := Lib.hid hq
  have HCX := Lib.hid hcx
  have HCY := Lib.hid hcy
  clear hA hB hq hcx hcy
  have e1 : (if xs.length < xs.length then (xs.length : Int) else (xs.length : Int)) = xs.length := by simp
  have hx' : (xs.length : Int) ≤ 64 := by omega
  have p2' : 2 ≤ (xs.length : Int) := by omega
  clear p1 p3 p4
  refine callsIn_of_wp_marks Tryd.func25 rfl trivial ?_ rfl
  simp only [Tryd.ntmps25, List.size_toArray, List.length_cons, List.length_nil, Nat.reduceAdd, Nat.reduceSub, Array.replicate_succ, Array.replicate_zero, List.push_toArray, List.append_toArray, List.nil_append, List.cons_append]
  have kA := HA.out.step ((bAl' (o := .cells #[.slice (some ⟨bu, ou, none⟩) xs.length cu, .slice (some ⟨bv, ov, none⟩) xs.length cv] 33) (W := w)))
  gi_wp2_with (first | (refine ⟨trivial, ?_⟩; gi_at_call 43; refine (callsIn_wide.2 (C1.out _ (HA.out.step (by repeat' (first | exact Below.refl _ _ | assumption | apply bDrewN | apply bDrew | apply bAlloc | (refine bSet ?_ ?_ _) | (refine bStep ?_ (by assumption)) | omega | (simp <;> omega)))))).mono ?_; rintro e w' ⟨rfl, rfl⟩) | (refine ⟨trivial, ?_⟩; gi_at_call 43; refine (callsIn_wide.2 (C2.out _ (HB.out.step (by repeat' (first | exact Below.refl _ _ | assumption | apply bDrewN | apply bDrew | apply bAlloc | (refine bSet ?_ ?_ _) | (refine bStep ?_ (by assumption)) | omega | (simp <;> omega)))))).mono ?_; rintro e w' ⟨rfl, rfl⟩) | (refine ⟨trivial, ?_⟩; gi_at_call 44; refine (pieces_in Fence.wide _ trivial rfl _ _ _ rfl rfl).mono ?_; rintro e w' ⟨rfl, rfl⟩))
  have kW : Below w.heap.size w (((w.alloc (Obj.cells #[(.slice (some ⟨bu, ou, none⟩) xs.length cu), (.slice (some ⟨bv, ov, none⟩) xs.length cv)] 33)).alloc (Obj.cells #[.int .i64 0] 25)).alloc (Obj.cells #[(.slice (some ⟨bu, ou, none⟩) xs.length cu), (.slice (some ⟨bv, ov, none⟩) xs.length cv)] 33)) := (by repeat' (first | exact Below.refl _ _ | assumption | apply bDrewN | apply bDrew | apply bAlloc | (refine bSet ?_ ?_ _) | (refine bStep ?_ (by assumption)) | omega | (simp <;> omega)))
  refine wpIn_rangeFunc_ownH rfl (by omega) (gf := 58) (lb := #[.pointer (some ⟨w.heap.size + 1 + 1, 0, none⟩)]) rfl trivial (enters_of Tryd.func58 (by kernel_rfl) rfl)
    (pieces_stops Fence.wide (5 - 1) trivial rfl (by omega) (w.heap.size + 1 + 1) (w.heap.size + 3) bu ou cu bv ov cv xs.length xs ys p2 (by omega) (by omega) (by omega) (by omega) HQ.out (((w.alloc (Obj.cells #[(.slice (some ⟨bu, ou, none⟩) xs.length cu), (.slice (some ⟨bv, ov, none⟩) xs.length cv)] 33)).alloc (Obj.cells #[.int .i64 0] 25)).alloc (Obj.cells #[(.slice (some ⟨bu, ou, none⟩) xs.length cu), (.slice (some ⟨bv, ov, none⟩) xs.length cv)] 33)) (by simp) (by go_simp) (by go_simp) (fun k hk => (kW.cell (p := ⟨bu, ou + k, none⟩) hbu).trans (HCX.out k hk)) (fun k hk => (kW.cell (p := ⟨bv, ov + k, none⟩) hbv).trans (HCY.out k hk)))
    belowK_t (belowK_b (by simp)) (Below.refl _ _) (fun _ => rfl)
    (fun pre W => ((∀ k ∈ pre, rising xs ys k) ∧ W.cell? ⟨w.heap.size + 1, 0, none⟩ = some (.int .i64 0) ∧ W.frozen? ⟨w.heap.size + 1, 0, none⟩ = false ∧ W.cell? ⟨w.heap.size + 1 + 1, 0, none⟩ = some (.slice (some ⟨bu, ou, none⟩) xs.length cu)) ∧ Below w.heap.size w W)
    (fun c pre W => (c = .ret ∧ (∃ k ∈ pre, ¬ rising xs ys k) ∧ W.cell? ⟨w.heap.size + 1, 0, none⟩ = some (.int .i64 2)) ∧ Below w.heap.size w W)
    (OwnFrom.and (Own.from (fun s A B row hs hg hr => ⟨hs.1, cell_kept hs.2.1 hg hr, (frozen_kept hs.2.1 hg hr).trans hs.2.2.1, cell_kept hs.2.2.2 hg hr⟩) _) (ownFrom_below (Nat.le_refl _) (by simp; omega)))
    (fun c => OwnFrom.and (Own.from (fun s A B row hs hg hr => ⟨hs.1, hs.2.1, cell_kept hs.2.2 hg hr⟩) _) (ownFrom_below (Nat.le_refl _) (by simp; omega)))
    ⟨⟨by simp, by go_simp, by go_simp, by go_simp⟩, kW⟩
    (fun k a' W => ∃ Bx, w.heap.size + 2 < Bx ∧ W.cell? ⟨Bx, 2, none⟩ = some (.int .i64 (xs.getD (k + 1) 0 - xs.getD k 0)) ∧ W.cell? ⟨Bx, 3, none⟩ = some (.int .i64 (ys.getD (k + 1) 0 - ys.getD k 0)) ∧ a' = { tmps := #[(.agg #[(.slice (some ⟨bu, ou, none⟩) xs.length cu), (.slice (some ⟨bv, ov, none⟩) xs.length cv)]), (.pointer (some ⟨w.heap.size, 0, none⟩)), (.pointer (some ⟨w.heap.size + 1, 0, none⟩)), (.func (.func 42) #[] #[]), undef, (.pointer (some ⟨Bx, 0, none⟩)), (.pointer (some ⟨w.heap.size, 0, none⟩)), (.slice (some ⟨bu, ou, none⟩) xs.length cu), (.int .i64 xs.length), (.pointer (some ⟨w.heap.size, 1, none⟩)), (.slice (some ⟨bv, ov, none⟩) xs.length cv), (.int .i64 xs.length), (.int .i64 xs.length), (.bool (decide (64 < (xs.length : Int)))), (.pointer (some ⟨w.heap.size, 0, none⟩)), (.slice (some ⟨bu, ou, none⟩) xs.length cu), (.int .i64 xs.length), (.pointer (some ⟨w.heap.size, 1, none⟩)), (.slice (some ⟨bv, ov, none⟩) xs.length cv), (.int .i64 xs.length), (.bool false), (.bool false), (.pointer (some ⟨w.heap.size, 0, none⟩)), (.slice (some ⟨bu, ou, none⟩) xs.length cu), (.int .i64 xs.length), (.bool (decide ((xs.length : Int) < 2))), (.bool (decide ((xs.length : Int) < 2))), (.bool (decide ((xs.length : Int) < 2))), (.pointer (some ⟨w.heap.size, 0, none⟩)), (.slice (some ⟨bu, ou, none⟩) xs.length cu), (.func (.func 42) #[] #[]), (.bool false), (.bool (decide ((xs.length : Int) < 2))), (.bool (decide ((xs.length : Int) < 2))), (.pointer (some ⟨w.heap.size, 1, none⟩)), (.slice (some ⟨bv, ov, none⟩) xs.length cv), (.func (.func 42) #[] #[]), (.bool false), (.bool (decide ((xs.length : Int) < 2))), (.agg #[(.slice (some ⟨bu, ou, none⟩) xs.length cu), (.slice (some ⟨bv, ov, none⟩) xs.length cv)]), (.func (.func 58) #[] #[.pointer (some ⟨w.heap.size + 1 + 1, 0, none⟩)]), (.int .i64 k), (.agg #[.int .i64 (xs.getD k 0), .int .i64 (ys.getD k 0), .int .i64 (xs.getD (k + 1) 0 - xs.getD k 0), .int .i64 (ys.getD (k + 1) 0 - ys.getD k 0)]), undef, undef, undef, undef, undef, undef, undef, undef], defers := [] })
    (fun k a' _ A B row hs hg hr => by obtain ⟨Bx, h1, h2, h3, h4⟩ := hs; exact ⟨Bx, h1, cell_kept h2 hg (fun r e => (hr r e).2), cell_kept h3 hg (fun r e => (hr r e).2), h4⟩) ?assign ?body ?done ?stop
  case assign =>
    rintro l pre k W K ⟨⟨i1, i2, i3, i5⟩, i4⟩ hK
    have hs : w.heap.size + 1 + 1 < W.heap.size := cell_lt i5
    dsimp only [pcs]
    gi_wp2
    exact hK _ _ ((KeepsOthers.alloc _ _).from _) ((Below.refl _ W).alloc (by omega) _) ⟨⟨i1, cell_step i2 bAl', free_step i2 i3 bAl', cell_step i5 bAl'⟩, i4.alloc (by omega) _⟩ ⟨W.heap.size, by omega, by go_simp, by go_simp, rfl⟩
  case body =>
    rintro l pre k a' W hl ⟨r', hr'⟩ ⟨⟨i1, i2, i3, i5⟩, i4⟩ ⟨Bx, hBx, c2, c3, rfl⟩ hlt
    have hs : w.heap.size + 1 + 1 < W.heap.size := cell_lt i5
    obtain ⟨q1, q2, q3, q4⟩ := HQ.out k
    obtain ⟨q5, q6, q7, q8⟩ := HQ.out (k + 1)
    by_cases hr : rising xs ys k
    · have hd1 : 0 < xs.getD (k + 1) 0 - xs.getD k 0 := by have := hr.1; omega
      have hd2 : 0 ≤ ys.getD (k + 1) 0 - ys.getD k 0 := by have := hr.2; omega
      have hI : ∀ j ∈ pre ++ [k], rising xs ys j := by
        intro j hj
        rcases List.mem_append.1 hj with hj | hj
        · exact i1 j hj
        · simp at hj; rw [hj]; exact hr
      generalize xs.getD (k + 1) 0 - xs.getD k 0 = dx at *
      generalize ys.getD (k + 1) 0 - ys.getD k 0 = dy at *
      generalize xs.getD k 0 = X at *
      generalize ys.getD k 0 = Y at *
      clear hr q5 q6 q7 q8
      gi_wp2
      exact ⟨(KeepsOthers.refl _).from _, Below.refl _ _, ⟨hI, i2, i3, i5⟩, i4⟩
    · have hI : ∃ j ∈ pre ++ [k], ¬ rising xs ys j := ⟨k, by simp, hr⟩
      have hd : xs.getD (k + 1) 0 - xs.getD k 0 ≤ 0 ∨ (0 < xs.getD (k + 1) 0 - xs.getD k 0 ∧ ys.getD (k + 1) 0 - ys.getD k 0 < 0) := by
        unfold rising at hr; omega
      generalize xs.getD (k + 1) 0 - xs.getD k 0 = dx at *
      generalize ys.getD (k + 1) 0 - ys.getD k 0 = dy at *
      generalize xs.getD k 0 = X at *
      generalize ys.getD k 0 = Y at *
      clear hr q5 q6 q7 q8
      rcases hd with hd | ⟨hd, hd2⟩
      all_goals
        gi_wp2
        exact ⟨(KeepsOthers.setCell _ _ _).from _, ⟨rfl, hI, World.cell?_setCell_same' _ _ _ (by rw [i2]; rfl)⟩, i4.setCell (p := ⟨w.heap.size + 1, 0, none⟩) (by simp) _⟩
  case done =>
    rintro D zs W hD rfl ⟨⟨hall, hcr, hfr, -⟩, hB⟩ hK
    obtain rfl : r = 0 := hck.out.1.2 (fun k hk => hall k (List.mem_range.2 hk))
    gi_wp2
    have hK' := (KeepsOthers.setCell W ⟨w.heap.size + 1, 0, none⟩ (.int .i64 0)).same D _ hK rfl
    refine ⟨by simp, .inl ⟨_, _, rfl, run_takeDeferred hK', ?_⟩⟩
    have hc5 := cell_kept (World.cell?_setCell_same' W ⟨w.heap.size + 1, 0, none⟩ (.int .i64 0) (by rw [hcr]; rfl)) (grownBy_putObj' _ D (.deferred none)) (fun r e => by cases e; exact ⟨_, hK', rfl⟩)
    refine ⟨.int .i64 0, ?_, rfl, (hB.setCell (p := ⟨w.heap.size + 1, 0, none⟩) (by simp) _).trans (belowK_b (w := w) (Nat.le_refl _) _ D _ _ (by simp at hD; omega) hK' rfl rfl)⟩
    simp [results, Tryd.f25, go_sem, hc5]
  case stop =>
    rintro D c pre W hD ⟨k', hk', rfl⟩ ⟨⟨rfl, ⟨k, hk, hnr⟩, hcr⟩, hB⟩ hK
    obtain rfl : r = 2 := hck.out.2 ⟨k, by have := List.mem_range.1 hk; omega, hnr⟩
    gi_wp2
    refine ⟨by simp, .inl ⟨_, _, rfl, run_takeDeferred hK, ?_⟩⟩
    have hc5 := cell_kept hcr (grownBy_putObj' _ D (.deferred none)) (fun r e => by cases e; exact ⟨_, hK, rfl⟩)
    refine ⟨.int .i64 2, ?_, rfl, hB.trans (belowK_b (w := w) (Nat.le_refl _) W D _ _ (by simp at hD; omega) hK rfl rfl)⟩
    simp [results, Tryd.f25, go_sem, hc5]


end Go.Proofs.YtolnbblikfpnbaaDoor

/-
  The walks of slices.Clone over spans, Halve, Widest of an empty box, SameBox.
-/
set_option linter.unusedSimpArgs false
set_option linter.unusedVariables false
namespace Go.Proofs.YtolnbblikfpnbaaDoor
open Go.RowKit

/-- The block g holds the row l, and may be written. -/
def SpBlk (W : World) (g : Nat) (l : List (Int × Int)) : Prop := ∃ cur T, W.heap[g]? = some (.cells cur T (0, 0)) ∧ ∀ k, k < l.length → cur[k * 2]? = some (.int .i64 (l.getD k (0, 0)).1) ∧ cur[k * 2 + 1]? = some (.int .i64 (l.getD k (0, 0)).2)
theorem SpBlk.step {W w2 : World} {g : Nat} {l : List (Int × Int)} (h : SpBlk W g l) (hb : Below W.heap.size W w2) : SpBlk w2 g l := by
  obtain ⟨cur, T, h1, h2⟩ := h
  exact ⟨cur, T, blk_step h1 hb, h2⟩
theorem SpBlk.far {W : World} {g r o : Nat} {v : Value} {l : List (Int × Int)} (h : SpBlk W g l) (hne : g ≠ r) : SpBlk (W.setCell ⟨r, o, none⟩ v) g l := by
  obtain ⟨cur, T, h1, h2⟩ := h
  exact ⟨cur, T, blk_set_other h1 hne, h2⟩
theorem getD_set {l : List (Int × Int)} {i k : Nat} {s : Int × Int} (hi : i < l.length) : (l.set i s).getD k (0, 0) = if i = k then s else l.getD k (0, 0) := by
  simp only [List.getD_eq_getElem?_getD, List.getElem?_set]
  split
  · rename_i h; subst h; simp [hi]
  · rfl
theorem SpBlk.setHi {W : World} {g i : Nat} {y : Int} {l : List (Int × Int)} (h : SpBlk W g l) (hi : i < l.length) : SpBlk (W.setCell ⟨g, i * 2 + 1, none⟩ (.int .i64 y)) g (l.set i ((l.getD i (0, 0)).1, y)) := by
  obtain ⟨cur, T, h1, h2⟩ := h
  refine ⟨_, T, blk_set h1, fun k hk => ?_⟩
  rw [List.length_set] at hk
  obtain ⟨q1, q2⟩ := h2 k hk
  obtain ⟨q3, q4⟩ := h2 i hi
  have hlt : i * 2 + 1 < cur.size := (Array.getElem?_eq_some_iff.1 q4).1
  rw [getD_set hi]
  by_cases e : i = k
  · subst e
    simp only [if_true]
    refine ⟨?_, ?_⟩
    · rw [Array.getElem?_setIfInBounds, if_neg (by omega)]; exact q1
    · rw [Array.getElem?_setIfInBounds, if_pos rfl, if_pos hlt]
  · rw [if_neg e, Array.getElem?_setIfInBounds, if_neg (by omega), Array.getElem?_setIfInBounds, if_neg (by omega)]
    exact ⟨q1, q2⟩
theorem SpBlk.setLo {W : World} {g i : Nat} {x : Int} {l : List (Int × Int)} (h : SpBlk W g l) (hi : i < l.length) : SpBlk (W.setCell ⟨g, i * 2, none⟩ (.int .i64 x)) g (l.set i (x, (l.getD i (0, 0)).2)) := by
  obtain ⟨cur, T, h1, h2⟩ := h
  refine ⟨_, T, blk_set h1, fun k hk => ?_⟩
  rw [List.length_set] at hk
  obtain ⟨q1, q2⟩ := h2 k hk
  obtain ⟨q3, q4⟩ := h2 i hi
  have hlt : i * 2 < cur.size := (Array.getElem?_eq_some_iff.1 q3).1
  rw [getD_set hi]
  by_cases e : i = k
  · subst e
    simp only [if_true]
    refine ⟨?_, ?_⟩
    · rw [Array.getElem?_setIfInBounds, if_pos rfl, if_pos hlt]
    · rw [Array.getElem?_setIfInBounds, if_neg (by omega)]; exact q2
  · rw [if_neg e, Array.getElem?_setIfInBounds, if_neg (by omega), Array.getElem?_setIfInBounds, if_neg (by omega)]
    exact ⟨q1, q2⟩
theorem SpBlk.at_ {W : World} {g : Nat} {l : List (Int × Int)} (h : SpBlk W g l) : SpAt (some ⟨g, 0, none⟩) l W := fun _ => by
  obtain ⟨cur, T, h1, h2⟩ := h
  exact ⟨g, 0, rfl, blk_lt h1, fun j hj => ⟨blk_cell h1 (by simpa using (h2 j hj).1), blk_cell h1 (by simpa using (h2 j hj).2)⟩⟩
theorem SpBlk.cells {W : World} {g : Nat} {l : List (Int × Int)} (h : SpBlk W g l) {k : Nat} (hk : k < l.length) :
    W.cell? ⟨g, k * 2, none⟩ = some (.int .i64 (l.getD k (0, 0)).1) ∧ W.cell? ⟨g, k * 2 + 1, none⟩ = some (.int .i64 (l.getD k (0, 0)).2) ∧ W.frozen? ⟨g, k * 2, none⟩ = false ∧ W.frozen? ⟨g, k * 2 + 1, none⟩ = false := by
  obtain ⟨cur, T, h1, h2⟩ := h
  exact ⟨blk_cell h1 (h2 k hk).1, blk_cell h1 (h2 k hk).2, blk_free h1, blk_free h1⟩
theorem SpOwn.blk {W : World} {B : Nat} {v : Value} {l : List (Int × Int)} (h : SpOwn W B v l) (hn : l ≠ []) : ∃ g c, v = .slice (some ⟨g, 0, none⟩) l.length c ∧ B ≤ g ∧ SpBlk W g l := by
  obtain ⟨h1, h2⟩ := h
  rcases h2 with ⟨rfl, h2⟩ | ⟨g, cap, cur, rfl, q2, q3, q4, q5, q6, q7⟩
  · exact absurd (List.length_eq_zero_iff.1 h2) hn
  · refine ⟨_, _, rfl, q2, cur, _, q3, fun j hj => ?_⟩
    have hf := flatS_get l j hj
    rw [← q7] at hf
    rw [List.getElem?_take_of_lt (by omega), List.getElem?_take_of_lt (by omega)] at hf
    exact ⟨by simpa using hf.1, by simpa using hf.2⟩
theorem flatS_cells {W : World} {b off : Nat} {l : List (Int × Int)} (h : SpanCells W b off l) : ∀ j u, (flatS l)[j]? = some u → W.cell? ((⟨b, off, none⟩ : Addr).add j) = some u := by
  intro j u hu
  have hj : j < l.length * 2 := by rw [← flatS_len]; exact (List.getElem?_eq_some_iff.1 hu).1
  have e : j = j / 2 * 2 ∨ j = j / 2 * 2 + 1 := by omega
  have hk : j / 2 < l.length := by omega
  have q := h.2 (j / 2) hk
  have f := flatS_get l (j / 2) hk
  have hadd : ((⟨b, off, none⟩ : Addr).add j) = ⟨b, off + j, none⟩ := by simp [Addr.add]
  rw [hadd]
  generalize j / 2 = k at *
  rcases e with e | e
  · rw [e] at hu ⊢
    rw [f.1] at hu
    exact q.1.trans hu
  · rw [e] at hu ⊢
    rw [f.2] at hu
    exact q.2.trans hu
theorem flatS_one {l : List (Int × Int)} : ∀ u ∈ flatS l, u.oneCell' = true := by
  intro u hu
  unfold flatS at hu
  obtain ⟨s, _, hs⟩ := List.mem_flatMap.1 hu
  simp at hs
  rcases hs with rfl | rfl <;> rfl

end Go.Proofs.YtolnbblikfpnbaaDoor

/-
  The walk of CheckCurve, at every curve; slices.Clone and slices.Equal over numbers.
-/
set_option linter.unusedSimpArgs false
set_option linter.unusedVariables false
namespace Go.Proofs.YtolnbblikfpnbaaDoor
open Go.RowKit

set_option maxHeartbeats 2000000 in
set_option maxRecDepth 20000 in
theorem CheckCurve_any (a b : Option Addr) (ca cb : Nat) (xs ys : List Int) (w : World) (hx : xs.length ≤ 1000000) (hy : ys.length ≤ 1000000) (hA : IntAt a xs w) (hB : IntAt b ys w) :
    Calls Tryd.prog 25 #[.agg #[.slice a xs.length ca, .slice b ys.length cb]] w fun e w' => e = .returned (.int .i64 (checkC xs ys)) ∧ Below w.heap.size w w' := by
  by_cases h64 : 64 < max xs.length ys.length
  · have hr : checkC xs ys = 6 := by unfold checkC; rw [if_pos h64]
    rw [hr]
    have e1 : (if xs.length < ys.length then (ys.length : Int) else (xs.length : Int)) = max (xs.length : Int) (ys.length : Int) := by split <;> omega
    have h64' : 64 < max (xs.length : Int) (ys.length : Int) := by omega
    generalize max (xs.length : Int) (ys.length : Int) = M at *
    clear hr h64 hA hB hx hy
    go_enter Tryd.func25, Tryd.ntmps25
    go_wp2_with fail
    exact bodyPost_ret (v := .int .i64 6) (by simp only [results, Tryd.results25]; go_simp) rfl ⟨rfl, (by repeat' (first | exact Below.refl _ _ | assumption | apply bDrewN | apply bDrew | apply bAlloc | (refine bSet ?_ ?_ _) | (refine bStep ?_ (by assumption)) | omega | (simp <;> omega)))⟩
  by_cases hp : preC xs ys
  · have hne : xs ≠ [] := fun e => by have := hp.2.1; rw [e] at this; simp at this
    have hne2 : ys ≠ [] := fun e => by have := hp.2.1; rw [hp.1, e] at this; simp at this
    obtain ⟨bu, ou, rfl, _⟩ := id (hA hne)
    obtain ⟨bv, ov, rfl, _⟩ := id (hB hne2)
    have := callsIn_wide.1 (CheckCurve_pre bu ou ca bv ov cb xs ys w (by omega) hp hA hB)
    rw [hp.1] at this ⊢
    exact this
  · have hr : checkC xs ys = 2 := by unfold checkC; rw [if_neg h64, if_neg (fun h => hp h.1)]
    rw [hr]
    have e1 : (if xs.length < ys.length then (ys.length : Int) else (xs.length : Int)) = max (xs.length : Int) (ys.length : Int) := by split <;> omega
    have h64' : max (xs.length : Int) (ys.length : Int) ≤ 64 := by omega
    have C1 := Lib.hid (fun w h => containsFunc_ints xs a ca w hx h)
    have C2 := Lib.hid (fun w h => containsFunc_ints ys b cb w hy h)
    have HA := Lib.hid hA
    have HB := Lib.hid hB
    have hc : xs.length ≠ ys.length ∨ (xs.length = ys.length ∧ (xs.length < 2 ∨ (2 ≤ xs.length ∧ (xs.all isQ = false ∨ (xs.all isQ = true ∧ ys.all isQ = false))))) := by
      unfold preC at hp
      cases h1 : xs.all isQ <;> cases h2 : ys.all isQ <;> simp only [h1, h2] at hp <;> simp <;> simp at hp <;> omega
    generalize max (xs.length : Int) (ys.length : Int) = M at *
    clear hr h64 hA hB hx hy hp
    rcases hc with hc | ⟨hc, hc2 | ⟨hc2, hc3 | ⟨hc3, hc4⟩⟩⟩
    · have hc' : (xs.length : Int) ≠ (ys.length : Int) := by omega
      go_enter Tryd.func25, Tryd.ntmps25
      go_wp2_with fail
      exact bodyPost_ret (v := .int .i64 2) (by simp only [results, Tryd.results25]; go_simp) rfl ⟨rfl, (by repeat' (first | exact Below.refl _ _ | assumption | apply bDrewN | apply bDrew | apply bAlloc | (refine bSet ?_ ?_ _) | (refine bStep ?_ (by assumption)) | omega | (simp <;> omega)))⟩
    all_goals
      rw [← hc] at C2 e1 ⊢
      try rw [hc3] at C1
      try rw [hc4] at C2
      first | have hc2' : (xs.length : Int) < 2 := by omega | have hc2' : 2 ≤ (xs.length : Int) := by omega
      clear hc hc2
      skip
      go_enter Tryd.func25, Tryd.ntmps25
      go_wp2_with (go_at_call 43; first | (with_reducible refine (C1.out _ (HA.out.step (by repeat' (first | exact Below.refl _ _ | assumption | apply bDrewN | apply bDrew | apply bAlloc | (refine bSet ?_ ?_ _) | (refine bStep ?_ (by assumption)) | omega | (simp <;> omega))))).mono ?_; rintro e w' ⟨rfl, rfl⟩) | (with_reducible refine (C2.out _ (HB.out.step (by repeat' (first | exact Below.refl _ _ | assumption | apply bDrewN | apply bDrew | apply bAlloc | (refine bSet ?_ ?_ _) | (refine bStep ?_ (by assumption)) | omega | (simp <;> omega))))).mono ?_; rintro e w' ⟨rfl, rfl⟩))
      all_goals first | exact bodyPost_ret (v := .int .i64 2) (by simp only [results, Tryd.results25]; go_simp) rfl ⟨rfl, (by repeat' (first | exact Below.refl _ _ | assumption | apply bDrewN | apply bDrew | apply bAlloc | (refine bSet ?_ ?_ _) | (refine bStep ?_ (by assumption)) | omega | (simp <;> omega)))⟩ | skip

end Go.Proofs.YtolnbblikfpnbaaDoor
