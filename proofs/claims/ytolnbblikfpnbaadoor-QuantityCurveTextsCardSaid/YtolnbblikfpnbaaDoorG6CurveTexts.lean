/-
  The walk of the law QuantityHalves.
-/
import Derived.Test.YtolnbblikfpnbaaDoorG4CurveTexts
import Derived.Test.YtolnbblikfpnbaaDoorG5CurveTexts
import Derived.Test.YtolnbblikfpnbaaDoorG3CurveTexts
import Derived.Test.YtolnbblikfpnbaaDoorG0CurveTexts
import Derived.Lib.ItoaNum
import Derived.Lib.ItoaMem
import Derived.Lib.Join
import Derived.Lib.ParseIntB
import Derived.Lib.IndexLaws
import Derived.Lib.IndexMore
import Derived.Lib.ItoaLen
set_option linter.unusedSimpArgs false
set_option linter.unusedVariables false
namespace Go.Proofs.YtolnbblikfpnbaaDoor
open Go.RowKit

def flatI (xs : List Int) : List Value := xs.map (Value.int .i64)
/-- The slice v owns the numbers xs, in a block from B on. -/
def IntOwn (W : World) (B : Nat) (v : Value) (xs : List Int) : Prop := W.ownsRow B 2 1 v xs.length (flatI xs)
theorem IntOwn.nil {W : World} {B : Nat} : IntOwn W B (.slice none 0 0) [] := ⟨rfl, Or.inl ⟨rfl, rfl⟩⟩
theorem own_step {W w2 : World} {B e s : Nat} {v : Value} {n : Nat} {xs : List Value} (h : W.ownsRow B e s v n xs) (hb : Below W.heap.size W w2) : w2.ownsRow B e s v n xs := by
  obtain ⟨h1, h2⟩ := h
  refine ⟨h1, ?_⟩
  rcases h2 with h2 | ⟨g, cap, cur, q1, q2, q3, q4⟩
  · exact Or.inl h2
  · exact Or.inr ⟨g, cap, cur, q1, q2, blk_step q3 hb, q4⟩
theorem IntOwn.step {W w2 : World} {B : Nat} {v : Value} {xs : List Int} (h : IntOwn W B v xs) (hb : Below W.heap.size W w2) : IntOwn w2 B v xs := own_step h hb
theorem IntOwn.row {W : World} {B : Nat} {v : Value} {xs : List Int} (h : IntOwn W B v xs) : IntRow v xs W := by
  obtain ⟨h1, h2⟩ := h
  rcases h2 with ⟨rfl, h2⟩ | ⟨g, cap, cur, rfl, q2, q3, q4, q5, q6, q7⟩
  · exact ⟨none, 0, by rw [h2], fun hn => absurd (List.length_eq_zero_iff.1 h2) hn⟩
  · refine ⟨_, _, rfl, fun _ => ⟨g, 0, rfl, blk_lt q3, fun j hj => ?_⟩⟩
    have hf : (flatI xs)[j]? = some (.int .i64 (xs.getD j 0)) := by simp [flatI, List.getD_eq_getElem?_getD, List.getElem?_eq_getElem hj]
    rw [← q7, List.getElem?_take_of_lt (by omega)] at hf
    exact blk_cell q3 (by simpa using hf)
theorem IntOwn.more {W : World} {B : Nat} {v : Value} {xs : List Int} {x : Int} (h : W.ownsRow B 2 1 v (xs.length + 1) (flatI xs ++ [.int .i64 x])) : IntOwn W B v (xs ++ [x]) := by
  unfold IntOwn flatI
  rw [List.map_append, List.length_append]
  exact h
theorem infoI : (Tryd.prog.info? 2).map (fun i => (i.zero, i.size, i.bytes)) = some (some (.int .i64 0), 1, 8) := by kernel_rfl
theorem one_cells (W : World) (x : Int) (T : TypeId) : ∀ j u, [Value.int .i64 x][j]? = some u → (W.alloc (.cells #[.int .i64 x] T)).cell? ((⟨W.heap.size, 0, none⟩ : Addr).add j) = some u := by
  intro j u hj
  match j, hj with
  | 0, hj => simp at hj; subst hj; simp [Addr.add]
theorem one_one (x : Int) : ∀ u ∈ [Value.int .i64 x], u.oneCell' = true := by
  intro u hu
  simp at hu
  rw [hu]; rfl
/-- A row of spans and a row of numbers never lie in one block. -/
theorem own_apart {W : World} {B : Nat} {v u : Value} {n m : Nat} {xs ys : List Value} (h : W.ownsRow B 23 2 v n xs) (g : W.ownsRow B 2 1 u m ys) : v.ownBlock = none ∨ v.ownBlock ≠ u.ownBlock := by
  rcases h.2 with ⟨rfl, _⟩ | ⟨b1, cap, cur, rfl, q2, q3, _⟩
  · exact Or.inl rfl
  · right
    rcases g.2 with ⟨rfl, _⟩ | ⟨b2, cap2, cur2, rfl, r2, r3, _⟩
    · intro e; cases e
    · intro e
      simp only [Value.ownBlock, Option.some.injEq] at e
      rw [e, r3] at q3
      simp only [Option.some.injEq, Obj.cells.injEq] at q3
      exact absurd q3.2.1 (by decide)
theorem own_apart' {W : World} {B : Nat} {v u : Value} {n m : Nat} {xs ys : List Value} (h : W.ownsRow B 23 2 v n xs) (g : W.ownsRow B 2 1 u m ys) : u.ownBlock = none ∨ u.ownBlock ≠ v.ownBlock := by
  rcases own_apart h g with e | e
  · cases hu : u.ownBlock with
    | none => exact Or.inl rfl
    | some b => exact Or.inr (by rw [e]; simp)
  · exact Or.inr (fun c => e c.symm)

abbrev Sm3 := Int × Int × Int
def sm0 : Sm3 := (0, 0, 0)
/-- A slice of small spans. -/
def SmAt (a : Option Addr) (l : List Sm3) (W : World) : Prop := l ≠ [] → ∃ b off, a = some ⟨b, off, none⟩ ∧ b < W.heap.size ∧ ∀ k, k < l.length →
  W.cell? ⟨b, off + k * 3, none⟩ = some (.int .i16 (l.getD k sm0).1) ∧ W.cell? ⟨b, off + k * 3 + 1, none⟩ = some (.int .i16 (l.getD k sm0).2.1) ∧ W.cell? ⟨b, off + k * 3 + 2, none⟩ = some (.int .u16 (l.getD k sm0).2.2)
def SmOk (s : Sm3) : Prop := -32768 ≤ s.1 ∧ s.1 ≤ 32767 ∧ -32768 ≤ s.2.1 ∧ s.2.1 ≤ 32767 ∧ 0 ≤ s.2.2 ∧ s.2.2 ≤ 65535
def spansOf (l : List Sm3) : List (Int × Int) := l.map fun s => spanOf s.1 s.2.1
def numsOf (l : List Sm3) : List Int := l.map fun s => numOf s.1 s.2.1 s.2.2
theorem spansOf_len (l : List Sm3) : (spansOf l).length = l.length := by simp [spansOf]
theorem numsOf_len (l : List Sm3) : (numsOf l).length = l.length := by simp [numsOf]
theorem spansOf_take (l : List Sm3) (k : Nat) (hk : k < l.length) : spansOf (l.take (k + 1)) = spansOf (l.take k) ++ [spanOf (l.getD k sm0).1 (l.getD k sm0).2.1] := by
  have e : l.getD k sm0 = l[k] := by simp [List.getD_eq_getElem?_getD, List.getElem?_eq_getElem hk]
  rw [List.take_succ_eq_append_getElem hk, e]
  unfold spansOf
  rw [List.map_append]
  rfl
theorem numsOf_take (l : List Sm3) (k : Nat) (hk : k < l.length) : numsOf (l.take (k + 1)) = numsOf (l.take k) ++ [numOf (l.getD k sm0).1 (l.getD k sm0).2.1 (l.getD k sm0).2.2] := by
  have e : l.getD k sm0 = l[k] := by simp [List.getD_eq_getElem?_getD, List.getElem?_eq_getElem hk]
  rw [List.take_succ_eq_append_getElem hk, e]
  unfold numsOf
  rw [List.map_append]
  rfl
theorem spansOf_get {l : List Sm3} {k : Nat} (hk : k < l.length) : (spansOf l).getD k (0, 0) = spanOf (l.getD k sm0).1 (l.getD k sm0).2.1 := by
  simp [spansOf, List.getD_eq_getElem?_getD, List.getElem?_eq_getElem hk]
theorem numsOf_get {l : List Sm3} {k : Nat} (hk : k < l.length) : (numsOf l).getD k 0 = numOf (l.getD k sm0).1 (l.getD k sm0).2.1 (l.getD k sm0).2.2 := by
  simp [numsOf, List.getD_eq_getElem?_getD, List.getElem?_eq_getElem hk]
theorem take_get {l : List Sm3} {n k : Nat} (hk : k < n) : (l.take n).getD k sm0 = l.getD k sm0 := by
  simp [List.getD_eq_getElem?_getD, List.getElem?_take_of_lt hk]

/-- What the law holds on to. -/
def HaSt (x y b z p : Value) (low high L : List (Int × Int)) (xs : List Int) (W : World) : Prop := SpRow x low W ∧ SpRow y high W ∧ SpRow b L W ∧ SpRow z L W ∧ IntRow p xs W
theorem HaSt.step {x y b z p : Value} {low high L : List (Int × Int)} {xs : List Int} {W w2 : World} (h : HaSt x y b z p low high L xs W) (hb : Below W.heap.size W w2) : HaSt x y b z p low high L xs w2 :=
  ⟨h.1.step hb, h.2.1.step hb, h.2.2.1.step hb, h.2.2.2.1.step hb, h.2.2.2.2.step hb⟩
theorem HaSt.hx {x y b z p : Value} {low high L : List (Int × Int)} {xs : List Int} {W : World} (h : HaSt x y b z p low high L xs W) : SpRow x low W := h.1
theorem HaSt.hy {x y b z p : Value} {low high L : List (Int × Int)} {xs : List Int} {W : World} (h : HaSt x y b z p low high L xs W) : SpRow y high W := h.2.1
theorem HaSt.hb {x y b z p : Value} {low high L : List (Int × Int)} {xs : List Int} {W : World} (h : HaSt x y b z p low high L xs W) : SpRow b L W := h.2.2.1
theorem HaSt.hz {x y b z p : Value} {low high L : List (Int × Int)} {xs : List Int} {W : World} (h : HaSt x y b z p low high L xs W) : SpRow z L W := h.2.2.2.1
theorem HaSt.hp {x y b z p : Value} {low high L : List (Int × Int)} {xs : List Int} {W : World} (h : HaSt x y b z p low high L xs W) : IntRow p xs W := h.2.2.2.2

end Go.Proofs.YtolnbblikfpnbaaDoor

/-
  The walks of slices.Clone and slices.Equal over numbers; Same, SameCurve of the reference.
-/
set_option linter.unusedSimpArgs false
set_option linter.unusedVariables false
namespace Go.Proofs.YtolnbblikfpnbaaDoor
open Go.RowKit

/-- The block g holds the row xs, and may be written. -/
def IntBlk (W : World) (g : Nat) (xs : List Int) : Prop := ∃ cur T, W.heap[g]? = some (.cells cur T (0, 0)) ∧ ∀ k, k < xs.length → cur[k]? = some (.int .i64 (xs.getD k 0))
theorem IntBlk.step {W w2 : World} {g : Nat} {xs : List Int} (h : IntBlk W g xs) (hb : Below W.heap.size W w2) : IntBlk w2 g xs := by
  obtain ⟨cur, T, h1, h2⟩ := h
  exact ⟨cur, T, blk_step h1 hb, h2⟩
theorem IntBlk.far {W : World} {g r o : Nat} {v : Value} {xs : List Int} (h : IntBlk W g xs) (hne : g ≠ r) : IntBlk (W.setCell ⟨r, o, none⟩ v) g xs := by
  obtain ⟨cur, T, h1, h2⟩ := h
  exact ⟨cur, T, blk_set_other h1 hne, h2⟩
theorem getDI_set {l : List Int} {i k : Nat} {s : Int} (hi : i < l.length) : (l.set i s).getD k 0 = if i = k then s else l.getD k 0 := by
  simp only [List.getD_eq_getElem?_getD, List.getElem?_set]
  split
  · rename_i h; subst h; simp [hi]
  · rfl
theorem IntBlk.set {W : World} {g i : Nat} {y : Int} {xs : List Int} (h : IntBlk W g xs) (hi : i < xs.length) : IntBlk (W.setCell ⟨g, i, none⟩ (.int .i64 y)) g (xs.set i y) := by
  obtain ⟨cur, T, h1, h2⟩ := h
  refine ⟨_, T, blk_set h1, fun k hk => ?_⟩
  rw [List.length_set] at hk
  have q1 := h2 k hk
  have q3 := h2 i hi
  have hlt : i < cur.size := (Array.getElem?_eq_some_iff.1 q3).1
  rw [getDI_set hi, Array.getElem?_setIfInBounds]
  by_cases e : i = k
  · subst e
    rw [if_pos rfl, if_pos rfl, if_pos hlt]
  · rw [if_neg e, if_neg e]
    exact q1
theorem IntBlk.at_ {W : World} {g : Nat} {xs : List Int} (h : IntBlk W g xs) : IntAt (some ⟨g, 0, none⟩) xs W := fun _ => by
  obtain ⟨cur, T, h1, h2⟩ := h
  exact ⟨g, 0, rfl, blk_lt h1, fun j hj => blk_cell h1 (by simpa using h2 j hj)⟩
theorem IntBlk.cells {W : World} {g : Nat} {xs : List Int} (h : IntBlk W g xs) {k : Nat} (hk : k < xs.length) : W.cell? ⟨g, k, none⟩ = some (.int .i64 (xs.getD k 0)) ∧ W.frozen? ⟨g, k, none⟩ = false := by
  obtain ⟨cur, T, h1, h2⟩ := h
  exact ⟨blk_cell h1 (h2 k hk), blk_free h1⟩
theorem IntOwn.blk {W : World} {B : Nat} {v : Value} {xs : List Int} (h : IntOwn W B v xs) (hn : xs ≠ []) : ∃ g c, v = .slice (some ⟨g, 0, none⟩) xs.length c ∧ B ≤ g ∧ IntBlk W g xs := by
  obtain ⟨h1, h2⟩ := h
  rcases h2 with ⟨rfl, h2⟩ | ⟨g, cap, cur, rfl, q2, q3, q4, q5, q6, q7⟩
  · exact absurd (List.length_eq_zero_iff.1 h2) hn
  · refine ⟨_, _, rfl, q2, cur, _, q3, fun j hj => ?_⟩
    have hf : (flatI xs)[j]? = some (.int .i64 (xs.getD j 0)) := by simp [flatI, List.getD_eq_getElem?_getD, List.getElem?_eq_getElem hj]
    rw [← q7, List.getElem?_take_of_lt (by omega)] at hf
    simpa using hf
theorem flatI_one {xs : List Int} : ∀ u ∈ flatI xs, u.oneCell' = true := by
  intro u hu
  unfold flatI at hu
  obtain ⟨x, _, rfl⟩ := List.mem_map.1 hu
  rfl
theorem flatI_len (xs : List Int) : (flatI xs).length = xs.length := by simp [flatI]

theorem ints_eq {l m : List Int} (h3 : l.length = m.length) (h : ∀ k, k < l.length → l.getD k 0 = m.getD k 0) : l = m := by
  refine List.ext_getElem h3 fun k h1 h2 => ?_
  have := h k h1
  simpa [List.getD_eq_getElem?_getD, List.getElem?_eq_getElem h1, List.getElem?_eq_getElem h2] using this

set_option maxHeartbeats 1000000 in
set_option maxRecDepth 20000 in
theorem SameI_row (a b : Option Addr) (ca cb : Nat) (l m : List Int) (w : World) (hl : l.length ≤ 1000000) (hm : m.length ≤ 1000000) (hA : IntAt a l w) (hB : IntAt b m w) :
    Calls Tryd.prog 29 #[.slice a l.length ca, .slice b m.length cb] w fun e w' => e = .returned (.bool (decide (l = m))) ∧ Below w.heap.size w w' := by
  by_cases h3 : l.length = m.length
  · have hg : ∀ B : Bool, (B = true ↔ ∀ k, k < l.length → l.getD k 0 = m.getD k 0) → B = decide (l = m) := by
      intro B hB
      rw [Bool.eq_iff_iff, hB, decide_eq_true_eq]
      constructor
      · exact ints_eq h3
      · intro h k _; rw [h]
    generalize decide (l = m) = r at *
    have HG := Lib.hid hg
    have H3 := Lib.hid h3
    rw [← h3]
    have HA := Lib.hid hA
    have HB := Lib.hid hB
    clear hg h3 hA hB hm
    go_enter Tryd.func29, Tryd.ntmps29
    go_wp2_with fail
    go_loopw [5] (fun i wr => ∃ (k n : Nat), k ≤ l.length ∧ i = .int .i64 k ∧ wr = w.drewN n ∧ Hid (∀ j, j < k → l.getD j 0 = m.getD j 0)) (fun i _ => l.length - (intOf i).toNat)
    case atStart => exact ⟨0, 0, by omega, rfl, rfl, fun j hj => by omega⟩
    case round =>
      obtain ⟨k, n, hk, rfl, rfl, HI⟩ := hrel
      by_cases hlt : k < l.length
      · have hlt2 : k < m.length := by rw [← H3.out]; exact hlt
        obtain ⟨bu, ou, rfl, q1⟩ := HA.out.at_ hlt
        obtain ⟨bv, ov, rfl, q3⟩ := HB.out.at_ hlt2
        have hgk : l.getD k 0 = l[k] := by simp [List.getD, List.getElem?_eq_getElem hlt]
        have hgm : m.getD k 0 = m[k] := by simp [List.getD, List.getElem?_eq_getElem hlt2]
        have HI2 : Hid (l[k] = m[k] → ∀ j, j < k + 1 → l.getD j 0 = m.getD j 0) := by
          intro h j hj
          rcases Nat.lt_or_ge j k with h' | h'
          · exact HI.out j h'
          · obtain rfl : j = k := by omega
            rw [hgk, hgm]; exact h
        have HN2 : Hid (l[k] ≠ m[k] → r = false) := by
          intro h
          refine (HG.out false ⟨fun h => absurd h (by decide), fun h' => ?_⟩).symm
          have := h' k hlt
          rw [hgk, hgm] at this
          exact absurd this h
        clear hgk hgm HG HI H3
        generalize l[k] = x1 at *
        generalize m[k] = y1 at *
        by_cases hx1 : x1 = y1
        · subst hx1
          have HI3 := Lib.hid (HI2.out rfl)
          clear HI2 HN2
          go_wp2_with fail
          go_quiet (fail)
          go_wp2_with fail
          go_roundw
          case rel => exact ⟨k + 1, _, by omega, by go_num, by first | exact Go.World.drewN_drewN .. | (simp; rfl) | rfl, HI3.out⟩
          case measure => (simp [intOf]; omega)
        · obtain rfl := HN2.out hx1
          clear HI2 HN2
          go_wp2_with fail
          go_quiet (fail)
          go_wp2_with fail
          go_ret
          exact ⟨rfl, (by repeat' (first | exact Below.refl _ _ | assumption | apply bDrewN | apply bDrew | apply bAlloc | (refine bSet ?_ ?_ _) | (refine bStep ?_ (by assumption)) | omega | (simp <;> omega)))⟩
      · obtain rfl : r = true := (HG.out true ⟨fun _ j hj => HI.out j (by omega), fun _ => rfl⟩).symm
        clear HA HB HI HG
        go_wp2_with fail
        go_ret
        exact ⟨rfl, (by repeat' (first | exact Below.refl _ _ | assumption | apply bDrewN | apply bDrew | apply bAlloc | (refine bSet ?_ ?_ _) | (refine bStep ?_ (by assumption)) | omega | (simp <;> omega)))⟩
  · have hr : decide (l = m) = false := decide_eq_false (fun h => h3 (by rw [h]))
    rw [hr]
    have h3' : (l.length : Int) ≠ (m.length : Int) := by omega
    clear hr hl hm h3 hA hB
    go_enter Tryd.func29, Tryd.ntmps29
    go_wp2_with fail
    go_ret
    exact ⟨rfl, (by repeat' (first | exact Below.refl _ _ | assumption | apply bDrewN | apply bDrew | apply bAlloc | (refine bSet ?_ ?_ _) | (refine bStep ?_ (by assumption)) | omega | (simp <;> omega)))⟩


end Go.Proofs.YtolnbblikfpnbaaDoor

/-
  A curve opened.
-/
set_option linter.unusedSimpArgs false
set_option linter.unusedVariables false
namespace Go.Proofs.YtolnbblikfpnbaaDoor
open Go.ChangeShapes Go.WideShapes Go.RowKit
section
variable {H : Type} {enc : TypeId × Value → H} {W : World} {held : Bool} {base : Nat}
theorem ints_open {t e : TypeId} {n : Nat} {v : Value} {x : DataW H × List MemPlace} (ht : Tryd.prog.underlying t = some (.slice e)) (he : Tryd.prog.underlying e = some (.int .i64)) (hc : Tryd.prog.cellsOf e = 1) (h : DataW.trod enc Tryd.prog W 0 (fun _ => true) held n t [v] = some x) :
    ∃ (a : Option Addr) (c : Nat) (m : List Int), v = .slice a m.length c ∧ IntAt a m W := by
  rcases open_ints ht he hc h with ⟨hcs, _⟩ | ⟨a, len, cap, zs, hcs, hb, hl, hm, hz, hx, hcell, hwf⟩
  · simp only [List.cons.injEq, and_true] at hcs
    exact ⟨none, 0, [], hcs, fun hn => absurd rfl hn⟩
  · simp only [List.cons.injEq, and_true] at hcs
    simp only [if_true] at hz
    have hlen : (zs.take len).length = len := by simp; omega
    refine ⟨some a, cap, zs.take len, by rw [hlen]; exact hcs, fun hn => ?_⟩
    have h0 : 0 < len := by
      rcases Nat.eq_zero_or_pos len with e | e
      · subst e; exact absurd (by simp) hn
      · exact e
    obtain ⟨b, off, spot⟩ := a
    have hspot : spot = none := by simpa [Addr.add] using World.cell?_spot (hcell 0 (by omega))
    subst hspot
    have hadd : ∀ j, ((⟨b, off, none⟩ : Addr).add j) = ⟨b, off + j, none⟩ := fun j => by simp [Addr.add]
    have hc0 := hcell 0 (by omega)
    refine ⟨b, off, rfl, ?_, fun k hk => ?_⟩
    · rw [hadd] at hc0
      exact cell_lt hc0
    · rw [hlen] at hk
      have h1 := hcell k (by omega)
      rw [hadd] at h1
      have e1 : (zs.take len).getD k 0 = zs.getD k 0 := by simp [List.getD_eq_getElem?_getD, List.getElem?_take_of_lt hk]
      rw [e1]
      exact h1
theorem list2 : ∀ {l : List Value}, l.length = 2 → ∃ c0 c1 : Value, l = [c0, c1]
  | [c0, c1], _ => ⟨c0, c1, rfl⟩
set_option maxRecDepth 100000 in
theorem curve_open {v : Value} {d : DataW H} {p : List MemPlace} (hv : Value.okWide Tryd.prog W .any base 33 v) (h : DataW.Trod enc Tryd.prog W 0 (fun _ => true) held 33 v d p) :
    ∃ (a b : Option Addr) (ca cb : Nat) (xs ys : List Int), v = .agg #[.slice a xs.length ca, .slice b ys.length cb] ∧ IntAt a xs W ∧ IntAt b ys W := by
  obtain ⟨cs, rfl, hsz⟩ := okWide_struct Tryd.underlying33 hv
  have h2 : Tryd.prog.cellsOf 33 = 2 := by kernel_rfl
  obtain ⟨l⟩ := cs
  rw [h2] at hsz
  obtain ⟨c0, c1, rfl⟩ := list2 (l := l) (by simpa using hsz)
  obtain ⟨n, ht⟩ := h
  obtain ⟨xs, m, -, -, -, hx, hall⟩ := DataW.trod_struct Tryd.underlying33 (by simpa [Value.cells] using ht)
  have e1 : Tryd.prog.cellsOf 31 = 1 := by kernel_rfl
  have hx4 : ∀ j, j < 2 → ∃ x, xs[j]? = some x := fun j hj => ⟨xs[j]'(by rw [hx]; exact hj), List.getElem?_eq_getElem _⟩
  obtain ⟨y0, q0⟩ := hx4 0 (by decide)
  obtain ⟨y1, q1⟩ := hx4 1 (by decide)
  have h9 := hall 0 _ rfl
  have h8 := hall 1 _ rfl
  rw [q0] at h9
  rw [q1] at h8
  have g9 : DataW.trod enc Tryd.prog W 0 (fun _ => true) held m 31 (([c0, c1].drop 0).take (Tryd.prog.cellsOf 31)) = some y0 := h9
  have g8 : DataW.trod enc Tryd.prog W 0 (fun _ => true) held m 31 (([c0, c1].drop 1).take (Tryd.prog.cellsOf 31)) = some y1 := h8
  rw [e1] at g9 g8
  obtain ⟨a, ca, xs', e2, hA⟩ := ints_open (v := c0) Tryd.underlying31 Tryd.underlying2 (by kernel_rfl) g9
  obtain ⟨b, cb, ys', e3, hB⟩ := ints_open (v := c1) Tryd.underlying31 Tryd.underlying2 (by kernel_rfl) g8
  subst e2 e3
  exact ⟨a, b, ca, cb, xs', ys', rfl, hA, hB⟩
end
end Go.Proofs.YtolnbblikfpnbaaDoor

/-
  Events: their bytes and their texts tell them apart: the plain law.
-/
set_option linter.unusedSimpArgs false
set_option linter.unusedVariables false
namespace Go.Proofs.YtolnbblikfpnbaaDoor

/-! Decimal digits. -/
def dval (l : List UInt8) : Nat := l.foldl (fun s c => 10 * s + (c.toNat - 48)) 0
theorem dval_snoc (l : List UInt8) (c : UInt8) : dval (l ++ [c]) = 10 * dval l + (c.toNat - 48) := by simp [dval]
theorem dig_nat {u : Nat} (h : u < 10) : (UInt8.ofNat (48 + u)).toNat = 48 + u := by
  simp only [UInt8.toNat_ofNat']
  omega
theorem dec_step {u : Nat} (h : ¬ u < 10) : Lib.decDigits u = Lib.decDigits (u / 10) ++ [UInt8.ofNat (48 + u % 10)] := by
  rw [Lib.decDigits, dif_neg h]
theorem dval_dec (u : Nat) : dval (Lib.decDigits u) = u := by
  induction u using Nat.strongRecOn with
  | ind u ih =>
    by_cases h : u < 10
    · rw [Lib.decDigits_one h]
      simp only [dval, List.foldl_cons, List.foldl_nil, dig_nat h]
      omega
    · rw [dec_step h, dval_snoc, ih (u / 10) (by omega), dig_nat (by omega)]
      omega
theorem dec_inj {u v : Nat} (h : Lib.decDigits u = Lib.decDigits v) : u = v := by rw [← dval_dec u, h, dval_dec]
theorem dec_ne (u : Nat) : Lib.decDigits u ≠ [] := by
  by_cases h : u < 10
  · rw [Lib.decDigits_one h]; simp
  · rw [dec_step h]; simp
theorem dec_plain (u : Nat) : ∀ c ∈ Lib.decDigits u, 48 ≤ c.toNat ∧ c.toNat ≤ 57 := by
  induction u using Nat.strongRecOn with
  | ind u ih =>
    intro c hc
    by_cases h : u < 10
    · rw [Lib.decDigits_one h] at hc
      obtain rfl := List.mem_singleton.1 hc
      rw [dig_nat h]; omega
    · rw [dec_step h] at hc
      rcases List.mem_append.1 hc with hc | hc
      · exact ih (u / 10) (by omega) c hc
      · obtain rfl := List.mem_singleton.1 hc
        rw [dig_nat (by omega)]; omega
theorem itoa_pos {n : Int} (h : 0 ≤ n) : Lib.itoa n = Lib.decDigits n.toNat := by
  obtain ⟨u, rfl⟩ := Int.eq_ofNat_of_zero_le h
  exact Lib.itoa_nonneg u
theorem itoa_inj {m n : Int} (hm : 0 ≤ m) (hn : 0 ≤ n) (h : Lib.itoa m = Lib.itoa n) : m = n := by
  rw [itoa_pos hm, itoa_pos hn] at h
  have := dec_inj h
  omega
def Sp (l : List UInt8) : Prop := ∀ c ∈ l, c.toNat ≠ 32
theorem itoa_sp {n : Int} (h : 0 ≤ n) : Sp (Lib.itoa n) := fun c hc => by
  rw [itoa_pos h] at hc
  have := dec_plain _ c hc
  omega
theorem itoa_ne {n : Int} (h : 0 ≤ n) : Lib.itoa n ≠ [] := by rw [itoa_pos h]; exact dec_ne _

/-! Texts joined by a space. -/
def Head (t : List UInt8) : Prop := t = [] ∨ ∃ r, t = 32 :: r
theorem cut_at : ∀ {x y t1 t2 : List UInt8}, Sp x → Sp y → Head t1 → Head t2 → x ++ t1 = y ++ t2 → x = y ∧ t1 = t2
  | [], [], _, _, _, _, _, _, h => ⟨rfl, h⟩
  | [], c :: y, t1, t2, _, hy, h1, _, h => by
    exfalso
    rcases h1 with rfl | ⟨r, rfl⟩
    · cases h
    · simp only [List.nil_append, List.cons_append, List.cons.injEq] at h
      exact hy c (List.mem_cons_self ..) (by rw [← h.1]; rfl)
  | c :: x, [], t1, t2, hx, _, _, h2, h => by
    exfalso
    rcases h2 with rfl | ⟨r, rfl⟩
    · cases h
    · simp only [List.nil_append, List.cons_append, List.cons.injEq] at h
      exact hx c (List.mem_cons_self ..) (by rw [h.1]; rfl)
  | c :: x, d :: y, t1, t2, hx, hy, h1, h2, h => by
    simp only [List.cons_append, List.cons.injEq] at h
    obtain ⟨e1, e2⟩ := cut_at (fun z hz => hx z (List.mem_cons_of_mem _ hz)) (fun z hz => hy z (List.mem_cons_of_mem _ hz)) h1 h2 h.2
    exact ⟨by rw [h.1, e1], e2⟩
theorem tail_head (r : List (List UInt8)) : Head (Lib.joinTail [32] r) := by
  cases r with
  | nil => exact Or.inl rfl
  | cons y r => exact Or.inr ⟨y ++ Lib.joinTail [32] r, by simp [Lib.joinTail]⟩
theorem tail_cons (y : List UInt8) (r : List (List UInt8)) : Lib.joinTail [32] (y :: r) = 32 :: (y ++ Lib.joinTail [32] r) := by simp [Lib.joinTail]
theorem tail_inj : ∀ {xs ys : List (List UInt8)}, (∀ x ∈ xs, Sp x) → (∀ y ∈ ys, Sp y) → Lib.joinTail [32] xs = Lib.joinTail [32] ys → xs = ys
  | [], [], _, _, _ => rfl
  | [], y :: ys, _, _, h => by rw [tail_cons] at h; cases h
  | x :: xs, [], _, _, h => by rw [tail_cons] at h; cases h
  | x :: xs, y :: ys, hx, hy, h => by
    rw [tail_cons, tail_cons] at h
    simp only [List.cons.injEq, true_and] at h
    obtain ⟨e1, e2⟩ := cut_at (hx x (List.mem_cons_self ..)) (hy y (List.mem_cons_self ..)) (tail_head _) (tail_head _) h
    rw [e1, tail_inj (fun z hz => hx z (List.mem_cons_of_mem _ hz)) (fun z hz => hy z (List.mem_cons_of_mem _ hz)) e2]
theorem join_inj {x y : List UInt8} {xs ys : List (List UInt8)} (hx : ∀ z ∈ x :: xs, Sp z) (hy : ∀ z ∈ y :: ys, Sp z) (h : Lib.join (x :: xs) [32] = Lib.join (y :: ys) [32]) : x :: xs = y :: ys := by
  rw [Lib.join_cons, Lib.join_cons] at h
  obtain ⟨e1, e2⟩ := cut_at (hx x (List.mem_cons_self ..)) (hy y (List.mem_cons_self ..)) (tail_head _) (tail_head _) h
  rw [e1, tail_inj (fun z hz => hx z (List.mem_cons_of_mem _ hz)) (fun z hz => hy z (List.mem_cons_of_mem _ hz)) e2]

/-! Events. -/
structure Ev where
  k : Int
  t : Int
  a : Int
  b : Int
  nm : List UInt8
  ot : List UInt8
def word (k : Int) : List UInt8 :=
  if k = 1 then [109, 97, 100, 101] else if k = 2 then [117, 115, 101] else if k = 3 then [116, 101, 115, 116] else if k = 4 then [102, 97, 117, 108, 116] else
  if k = 5 then [112, 117, 116] else if k = 6 then [116, 97, 107, 101] else if k = 7 then [114, 101, 99, 97, 108, 108] else if k = 8 then [99, 108, 101, 97, 114] else [115, 99, 114, 97, 112]
/-- What a valid event is, as far as the law wants it. -/
structure EvOk (e : Ev) : Prop where
  k : 1 ≤ e.k ∧ e.k ≤ 9
  t : 0 ≤ e.t ∧ e.t ≤ 1099511627776
  a : 0 ≤ e.a ∧ e.a ≤ 1099511627776
  b : 0 ≤ e.b ∧ e.b ≤ 1099511627776
  a0 : 5 ≤ e.k → e.a = 0
  b0 : 3 ≤ e.k → e.b = 0
  nm : Sp e.nm
  ot : Sp e.ot
  nm0 : (e.k = 2 ∨ e.k = 3 ∨ e.k = 4 ∨ e.k = 9) → e.nm = []
  nm1 : (e.k = 1 ∨ e.k = 5 ∨ e.k = 6 ∨ e.k = 7 ∨ e.k = 8) → e.nm ≠ []
  ot0 : (e.k ≠ 5 ∧ e.k ≠ 6) → e.ot = []
  ot1 : (e.k = 5 ∨ e.k = 6) → e.ot ≠ []
/-- The words of its text. -/
def parts (e : Ev) : List (List UInt8) :=
  Lib.itoa e.t :: ((if e.k ≤ 2 then [Lib.itoa e.a, Lib.itoa e.b] else if e.k ≤ 4 then [Lib.itoa e.a] else []) ++ (if e.nm = [] then [] else [e.nm]) ++ (if e.ot = [] then [] else [e.ot]))
def textE (e : Ev) : List UInt8 := Lib.join (word e.k :: parts e) [32]
theorem word_sp (k : Int) : Sp (word k) := by
  unfold word Sp
  repeat' split
  all_goals decide
theorem word_inj {k l : Int} (hk : 1 ≤ k ∧ k ≤ 9) (hl : 1 ≤ l ∧ l ≤ 9) (h : word k = word l) : k = l := by
  have h1 : k = 1 ∨ k = 2 ∨ k = 3 ∨ k = 4 ∨ k = 5 ∨ k = 6 ∨ k = 7 ∨ k = 8 ∨ k = 9 := by omega
  have h2 : l = 1 ∨ l = 2 ∨ l = 3 ∨ l = 4 ∨ l = 5 ∨ l = 6 ∨ l = 7 ∨ l = 8 ∨ l = 9 := by omega
  rcases h1 with rfl | rfl | rfl | rfl | rfl | rfl | rfl | rfl | rfl <;> rcases h2 with rfl | rfl | rfl | rfl | rfl | rfl | rfl | rfl | rfl <;> first | rfl | (exfalso; revert h; decide)
theorem parts_sp {e : Ev} (h : EvOk e) : ∀ z ∈ word e.k :: parts e, Sp z := by
  intro z hz
  rcases List.mem_cons.1 hz with rfl | hz
  · exact word_sp _
  unfold parts at hz
  rcases List.mem_cons.1 hz with rfl | hz
  · exact itoa_sp h.t.1
  rcases List.mem_append.1 hz with hz | hz
  · rcases List.mem_append.1 hz with hz | hz
    · split at hz
      · simp only [List.mem_cons, List.not_mem_nil, or_false] at hz
        rcases hz with rfl | rfl
        · exact itoa_sp h.a.1
        · exact itoa_sp h.b.1
      · split at hz
        · obtain rfl := List.mem_singleton.1 hz; exact itoa_sp h.a.1
        · cases hz
    · split at hz
      · cases hz
      · obtain rfl := List.mem_singleton.1 hz; exact h.nm
  · split at hz
    · cases hz
    · obtain rfl := List.mem_singleton.1 hz; exact h.ot
theorem text_inj {e f : Ev} (he : EvOk e) (hf : EvOk f) (h : textE e = textE f) : e = f := by
  have h1 := join_inj (parts_sp he) (parts_sp hf) h
  simp only [List.cons.injEq] at h1
  obtain ⟨h1, h2⟩ := h1
  have hk := word_inj he.k hf.k h1
  obtain ⟨k, t, a, b, nm, ot⟩ := e
  obtain ⟨k', t', a', b', nm', ot'⟩ := f
  dsimp only at hk
  subst hk
  obtain ⟨k1, t1, a1, b1, a01, b01, nm1, ot1, nm01, nm11, ot01, ot11⟩ := he
  obtain ⟨k2, t2, a2, b2, a02, b02, nm2, ot2, nm02, nm12, ot02, ot12⟩ := hf
  dsimp only at *
  unfold parts at h2
  dsimp only at h2
  simp only [List.cons.injEq] at h2
  obtain ⟨e1, h2⟩ := h2
  have et := itoa_inj t1.1 t2.1 e1
  subst et
  have hc : k = 1 ∨ k = 2 ∨ k = 3 ∨ k = 4 ∨ k = 5 ∨ k = 6 ∨ k = 7 ∨ k = 8 ∨ k = 9 := by omega
  rcases hc with rfl | rfl | rfl | rfl | rfl | rfl | rfl | rfl | rfl
  all_goals simp at a01 b01 nm01 nm11 ot01 ot11 a02 b02 nm02 nm12 ot02 ot12 h2
  all_goals (try subst a01); (try subst a02); (try subst b01); (try subst b02); (try subst nm01); (try subst nm02); (try subst ot01); (try subst ot02)
  all_goals simp_all
  all_goals first | exact itoa_inj (by omega) (by omega) (by assumption) | exact ⟨itoa_inj (by omega) (by omega) h2.1, itoa_inj (by omega) (by omega) h2.2⟩ | exact ⟨itoa_inj (by omega) (by omega) h2.1, itoa_inj (by omega) (by omega) h2.2.1⟩
end Go.Proofs.YtolnbblikfpnbaaDoor

/-
  Decimal numbers and spans as texts: the plain law.
-/
set_option linter.unusedSimpArgs false
set_option linter.unusedVariables false
namespace Go.Proofs.YtolnbblikfpnbaaDoor

theorem dec_lt {u k : Nat} (h : (Lib.decDigits u).length ≤ k) : u < 10 ^ k := by
  rw [Lib.decDigits_length] at h
  exact Nat.lt_of_lt_of_le (Lib.lt_pow_nDigits u) (Nat.pow_le_pow_right (by decide) h)
theorem dec_le : ∀ {k u : Nat}, 1 ≤ k → u < 10 ^ k → (Lib.decDigits u).length ≤ k
  | 0, _, h, _ => absurd h (by decide)
  | k + 1, u, _, h => by
    by_cases hu : u < 10
    · rw [Lib.decDigits_one hu]; simp
    · rw [dec_step hu]
      have hk : 1 ≤ k := by
        rcases Nat.eq_zero_or_pos k with rfl | hk
        · simp at h; omega
        · exact hk
      have := dec_le hk (u := u / 10) (by rw [Nat.pow_succ] at h; omega)
      simp only [List.length_append, List.length_cons, List.length_nil]
      omega
theorem itoa_cases (n : Int) : (∃ u : Nat, n = u ∧ Lib.itoa n = Lib.decDigits u) ∨ (∃ u : Nat, 1 ≤ u ∧ n = -(u : Int) ∧ Lib.itoa n = 45 :: Lib.decDigits u) := by
  rcases Int.lt_or_le n 0 with h | h
  · obtain ⟨u, hu⟩ := Int.eq_ofNat_of_zero_le (show 0 ≤ -n by omega)
    have e : n = -(u : Int) := by omega
    exact .inr ⟨u, by omega, e, by rw [e]; exact Lib.itoa_neg u (by omega)⟩
  · obtain ⟨u, hu⟩ := Int.eq_ofNat_of_zero_le h
    exact .inl ⟨u, hu, by rw [hu]; exact Lib.itoa_nonneg u⟩
theorem dec_head {u : Nat} {c : UInt8} {r : List UInt8} (h : Lib.decDigits u = c :: r) : 48 ≤ c.toNat ∧ c.toNat ≤ 57 := dec_plain u c (by rw [h]; exact List.mem_cons_self ..)
theorem itoa_all {n : Int} : ∀ c ∈ Lib.itoa n, c.toNat = 45 ∨ (48 ≤ c.toNat ∧ c.toNat ≤ 57) := by
  intro c hc
  rcases itoa_cases n with ⟨u, -, e⟩ | ⟨u, -, -, e⟩
  · rw [e] at hc; exact .inr (dec_plain u c hc)
  · rw [e] at hc
    rcases List.mem_cons.1 hc with rfl | hc
    · exact .inl rfl
    · exact .inr (dec_plain u c hc)
theorem itoa_ne' (n : Int) : Lib.itoa n ≠ [] := by
  rcases itoa_cases n with ⟨u, -, e⟩ | ⟨u, -, -, e⟩
  · rw [e]; exact dec_ne u
  · rw [e]; simp
theorem itoaI {m n : Int} (h : Lib.itoa m = Lib.itoa n) : m = n := by
  rcases itoa_cases m with ⟨u, e1, e2⟩ | ⟨u, -, e1, e2⟩ <;> rcases itoa_cases n with ⟨v, f1, f2⟩ | ⟨v, -, f1, f2⟩ <;> rw [e2, f2] at h
  · have := dec_inj h; omega
  · have := dec_head h; exact absurd this.1 (by decide)
  · have := dec_head h.symm; exact absurd this.1 (by decide)
  · have := dec_inj (List.cons.inj h).2; omega
theorem itoa_len {n : Int} {k : Nat} (h1 : -(10 ^ k : Nat) < n) (h2 : n < (10 ^ k : Nat)) (hk : 1 ≤ k) : (Lib.itoa n).length ≤ k + 1 := by
  rcases itoa_cases n with ⟨u, e1, e2⟩ | ⟨u, -, e1, e2⟩
  · rw [e2]; have := dec_le hk (u := u) (by omega); omega
  · rw [e2]; have := dec_le hk (u := u) (by omega); simp only [List.length_cons]; omega
theorem itoa_small {n : Int} {k : Nat} (h : (Lib.itoa n).length ≤ k) : -(10 ^ k : Nat) < n ∧ n < (10 ^ k : Nat) := by
  rcases itoa_cases n with ⟨u, e1, e2⟩ | ⟨u, -, e1, e2⟩
  · rw [e2] at h; have := dec_lt h; omega
  · rw [e2] at h
    have : u < 10 ^ k := dec_lt (by simp only [List.length_cons] at h; omega)
    omega

/-! strconv.ParseInt at a decimal number. -/
theorem pM_dec {M u : Nat} (hM : M ≤ 18446744073709551615) (hu : u ≤ M) (r : List UInt8) : Lib.parseUintM M 0 (Lib.decDigits u ++ r) = Lib.parseUintM M u r := by
  induction u using Nat.strongRecOn generalizing r with
  | ind u ih =>
    have h48 : ∀ d, d < 10 → (UInt8.ofNat (48 + d)).toNat = 48 + d := fun d hd => dig_nat hd
    by_cases h : u < 10
    · rw [Lib.decDigits_one h, List.singleton_append, Lib.parseUintM, h48 u h]
      rw [if_pos ⟨by omega, by omega⟩, if_neg (by decide), if_neg (by omega)]
      congr 1; omega
    · rw [dec_step h, List.append_assoc, ih (u / 10) (by omega) (by omega), List.singleton_append, Lib.parseUintM, h48 (u % 10) (by omega)]
      rw [if_pos ⟨by omega, by omega⟩, if_neg (by omega), if_neg (by omega)]
      congr 1; omega
theorem pU_dec {u : Nat} (hu : u ≤ 18446744073709551615) : Lib.parseUintB 64 (Lib.decDigits u) = .ok u := by
  unfold Lib.parseUintB
  rw [if_neg (dec_ne u)]
  have := pM_dec (M := 18446744073709551615) (by decide) hu []
  rw [List.append_nil] at this
  exact this
theorem parse_itoa {n : Int} (h1 : -9223372036854775808 ≤ n) (h2 : n ≤ 9223372036854775807) : Lib.parseIntB 64 (Lib.itoa n) = .ok n := by
  rcases itoa_cases n with ⟨u, e1, e2⟩ | ⟨u, hu, e1, e2⟩
  · rw [e2]
    cases hd : Lib.decDigits u with
    | nil => exact absurd hd (dec_ne u)
    | cons c r =>
      have hc := dec_head hd
      unfold Lib.parseIntB
      have k1 : ¬ (c.toNat = 43 ∨ c.toNat = 45) := by omega
      have k2 : ¬ c.toNat = 45 := by omega
      simp only [if_neg k1]
      rw [← hd, pU_dec (by omega)]
      simp only [k2, not_false_eq_true, true_and, false_and, if_false]
      rw [if_neg (by show ¬ 9223372036854775808 ≤ u; omega)]
      rw [e1]
  · rw [e2]
    unfold Lib.parseIntB
    have k2 : (45 : UInt8).toNat = 45 := rfl
    simp only [k2, or_true, if_true]
    rw [pU_dec (by omega)]
    simp only [not_true_eq_false, false_and, true_and, if_true, if_false]
    rw [if_neg (by show ¬ 9223372036854775808 < u; omega)]
    rw [e1]
theorem parse_bd {l : List UInt8} {v : Int} (h : Lib.parseIntB 64 l = .ok v) : -9223372036854775808 ≤ v ∧ v ≤ 9223372036854775807 := by
  unfold Lib.parseIntB at h
  cases l with
  | nil => cases h
  | cons c r =>
    dsimp only at h
    split at h
    · cases h
    · cases h
    · rename_i u hu
      split at h
      · cases h
      · rename_i h1
        split at h
        · cases h
        · rename_i h2
          injection h with h
          by_cases hn : c.toNat = 45
          · rw [if_pos hn] at h
            have : ¬ 9223372036854775808 < u := fun q => h2 ⟨hn, q⟩
            omega
          · rw [if_neg hn] at h
            have : ¬ 9223372036854775808 ≤ u := fun q => h1 ⟨hn, q⟩
            omega
/-- The number that a text is, if it is one. -/
def rd (l : List UInt8) : Option Int := match Lib.parseIntB 64 l with
  | .ok v => if Lib.itoa v = l then some v else none
  | _ => none
theorem rd_iff {l : List UInt8} {v : Int} : rd l = some v ↔ (Lib.itoa v = l ∧ -9223372036854775808 ≤ v ∧ v ≤ 9223372036854775807) := by
  constructor
  · intro h
    unfold rd at h
    split at h
    · rename_i u hu
      split at h
      · rename_i he
        obtain rfl := Option.some.inj h
        exact ⟨he, parse_bd hu⟩
      · cases h
    · cases h
  · rintro ⟨rfl, h1, h2⟩
    unfold rd
    rw [parse_itoa h1 h2]
    simp

/-! The reference's Number. -/
def nvF (l : List UInt8) : Nat := l.foldl (fun s c => if 48 ≤ c.toNat ∧ c.toNat ≤ 57 then 10 * s + (c.toNat - 48) else s) 0
def sv (l : List UInt8) : Int := if l.head? = some 45 then -(nvF l : Int) else nvF l
theorem nvF_snoc (l : List UInt8) (c : UInt8) : nvF (l ++ [c]) = if 48 ≤ c.toNat ∧ c.toNat ≤ 57 then 10 * nvF l + (c.toNat - 48) else nvF l := by simp [nvF]
theorem fold_lt : ∀ (l : List UInt8) (s : Nat), l.foldl (fun s c => if 48 ≤ c.toNat ∧ c.toNat ≤ 57 then 10 * s + (c.toNat - 48) else s) s < (s + 1) * 10 ^ l.length
  | [], s => by simp
  | c :: l, s => by
    rw [List.foldl_cons]
    refine Nat.lt_of_lt_of_le (fold_lt l _) ?_
    rw [List.length_cons, Nat.pow_succ, Nat.mul_comm (10 ^ l.length) 10, ← Nat.mul_assoc]
    refine Nat.mul_le_mul_right _ ?_
    split <;> omega
theorem nvF_lt (l : List UInt8) : nvF l < 10 ^ l.length := by have := fold_lt l 0; simpa [nvF] using this
theorem nvF_dec (u : Nat) : nvF (Lib.decDigits u) = u := by
  have h : ∀ (l : List UInt8), (∀ c ∈ l, 48 ≤ c.toNat ∧ c.toNat ≤ 57) → ∀ s, l.foldl (fun s c => if 48 ≤ c.toNat ∧ c.toNat ≤ 57 then 10 * s + (c.toNat - 48) else s) s = l.foldl (fun s c => 10 * s + (c.toNat - 48)) s := by
    intro l
    induction l with
    | nil => intro _ s; rfl
    | cons c l ih =>
      intro hl s
      rw [List.foldl_cons, List.foldl_cons, if_pos (hl c (List.mem_cons_self ..))]
      exact ih (fun d hd => hl d (List.mem_cons_of_mem _ hd)) _
  unfold nvF
  rw [h _ (dec_plain u) 0]
  exact dval_dec u
theorem sv_itoa (n : Int) : sv (Lib.itoa n) = n := by
  rcases itoa_cases n with ⟨u, e1, e2⟩ | ⟨u, -, e1, e2⟩
  · rw [e2]
    unfold sv
    rw [nvF_dec, if_neg ?_, e1]
    intro h
    cases hd : Lib.decDigits u with
    | nil => exact absurd hd (dec_ne u)
    | cons c r =>
      rw [hd] at h
      have hc := dec_head hd
      simp only [List.head?_cons, Option.some.injEq] at h
      rw [h] at hc
      exact absurd hc.1 (by decide)
  · rw [e2]
    unfold sv
    rw [if_pos (show (45 :: Lib.decDigits u).head? = some 45 from rfl), e1]
    have : nvF (45 :: Lib.decDigits u) = nvF (Lib.decDigits u) := by simp [nvF]
    rw [this, nvF_dec]
/-- What Number answers: whether a text of at most 14 characters is a number. -/
def isN (l : List UInt8) : Bool := decide (l.length ≤ 14) && decide (Lib.itoa (sv l) = l)
theorem isN_iff {l : List UInt8} : isN l = true ↔ l.length ≤ 14 ∧ Lib.itoa (sv l) = l := by unfold isN; simp
theorem isN_itoa {n : Int} (h : (Lib.itoa n).length ≤ 14) : isN (Lib.itoa n) = true := isN_iff.2 ⟨h, by rw [sv_itoa]⟩

/-! Spans. -/
def okP (p : Int × Int) : Prop := -1099511627776 ≤ p.1 ∧ p.1 ≤ p.2 ∧ p.2 ≤ 1099511627776
def txtP (p : Int × Int) : List UInt8 := Lib.itoa p.1 ++ 46 :: 46 :: Lib.itoa p.2
theorem no46 {n : Int} : ∀ c ∈ Lib.itoa n, c ≠ 46 := fun c hc e => by
  have := itoa_all c hc
  rw [e] at this
  revert this
  decide
theorem split46 : ∀ {x y a b : List UInt8}, (∀ c ∈ x, c ≠ 46) → (∀ c ∈ y, c ≠ 46) → x ++ 46 :: a = y ++ 46 :: b → x = y ∧ a = b
  | [], [], _, _, _, _, h => ⟨rfl, (List.cons.inj h).2⟩
  | [], c :: y, _, _, _, hy, h => by
    rw [List.nil_append, List.cons_append] at h
    exact absurd (List.cons.inj h).1.symm (hy c (List.mem_cons_self ..))
  | c :: x, [], _, _, hx, _, h => by
    rw [List.nil_append, List.cons_append] at h
    exact absurd (List.cons.inj h).1 (hx c (List.mem_cons_self ..))
  | c :: x, d :: y, _, _, hx, hy, h => by
    rw [List.cons_append, List.cons_append] at h
    obtain ⟨h1, h2⟩ := List.cons.inj h
    obtain ⟨e1, e2⟩ := split46 (fun z hz => hx z (List.mem_cons_of_mem _ hz)) (fun z hz => hy z (List.mem_cons_of_mem _ hz)) h2
    exact ⟨by rw [h1, e1], e2⟩
theorem txtP_inj {p q : Int × Int} (h : txtP p = txtP q) : p = q := by
  unfold txtP at h
  obtain ⟨e1, e2⟩ := split46 (fun c hc => no46 c hc) (fun c hc => no46 c hc) h
  have := itoaI e1
  have := itoaI (List.cons.inj e2).2
  exact Prod.ext (by assumption) (by assumption)
theorem okP_len {n : Int} (h1 : -1099511627776 ≤ n) (h2 : n ≤ 1099511627776) : (Lib.itoa n).length ≤ 14 := itoa_len (k := 13) (by omega) (by omega) (by decide)
open Classical in
noncomputable def parS (l : List UInt8) : Option (Int × Int) := if h : ∃ p, okP p ∧ l = txtP p then some h.choose else none
theorem parS_some {p : Int × Int} (h : okP p) : parS (txtP p) = some p := by
  have hx : ∃ q, okP q ∧ txtP p = txtP q := ⟨p, h, rfl⟩
  unfold parS
  rw [dif_pos hx]
  exact congrArg some (txtP_inj hx.choose_spec.2).symm
theorem parS_none {l : List UInt8} (h : ∀ p, okP p → l ≠ txtP p) : parS l = none := by
  unfold parS
  rw [dif_neg]
  rintro ⟨p, h1, h2⟩
  exact h p h1 h2
/-- Two dots at a place. -/
theorem occ_iff {l : List UInt8} {i : Nat} : Lib.occAt l [46, 46] i = true ↔ ∃ r, l.drop i = 46 :: 46 :: r := by
  unfold Lib.occAt
  rw [List.isPrefixOf_iff_prefix]
  constructor
  · rintro ⟨r, h⟩; exact ⟨r, h.symm⟩
  · rintro ⟨r, h⟩; exact ⟨r, h.symm⟩
theorem occ_txt {l : List UInt8} {i : Nat} {r : List UInt8} (h : l.drop i = 46 :: 46 :: r) (hi : i ≤ l.length) : l = l.take i ++ 46 :: 46 :: r := by
  conv => lhs; rw [← List.take_append_drop i l]
  rw [h]
theorem noOcc_txt {p : Int × Int} {j : Nat} (h : j < (Lib.itoa p.1).length) : Lib.occAt (txtP p) [46, 46] j = false := by
  cases ho : Lib.occAt (txtP p) [46, 46] j
  · rfl
  · exfalso
    obtain ⟨r, hr⟩ := occ_iff.1 ho
    have h1 : (txtP p)[j]? = some 46 := by
      have : ((txtP p).drop j)[0]? = some 46 := by rw [hr]; rfl
      simpa using this
    unfold txtP at h1
    rw [List.getElem?_append_left h] at h1
    have := List.mem_of_getElem? h1
    exact no46 46 this rfl
theorem cut_txt (p : Int × Int) : Lib.cut (txtP p) [46, 46] = (Lib.itoa p.1, Lib.itoa p.2, true) := by
  have hi : Lib.index (txtP p) [46, 46] = (Lib.itoa p.1).length := Lib.index_first (by unfold txtP; simp) (occ_iff.2 ⟨Lib.itoa p.2, by unfold txtP; simp⟩) (fun j hj => noOcc_txt hj)
  unfold Lib.cut
  rw [hi, if_pos (by omega)]
  unfold txtP
  simp
theorem cut_is {l : List UInt8} (h : (Lib.cut l [46, 46]).2.2 = true) : l = (Lib.cut l [46, 46]).1 ++ 46 :: 46 :: (Lib.cut l [46, 46]).2.1 := by
  unfold Lib.cut at h ⊢
  split at h
  · rename_i h0
    rcases Lib.index_spec l [46, 46] with ⟨h1, -⟩ | ⟨i, h1, h2, h3, -⟩
    · omega
    · rw [if_pos h0, h1]
      obtain ⟨r, hr⟩ := occ_iff.1 h3
      simp only [Int.toNat_natCast, List.length_cons, List.length_nil]
      have e : l.drop (i + (0 + 1 + 1)) = r := by
        rw [show i + (0 + 1 + 1) = i + 2 from rfl, ← List.drop_drop, hr]; rfl
      rw [e]
      exact occ_txt hr h2
  · cases h
/-- What Parse makes of a text. -/
theorem par_cut {l a b : List UInt8} {f : Bool} (h : Lib.cut l [46, 46] = (a, b, f)) :
    parS l = (if f = true then (match rd a, rd b with | some x, some y => if -1099511627776 ≤ x ∧ x ≤ y ∧ y ≤ 1099511627776 then some (x, y) else none | _, _ => none) else none) := by
  by_cases hx : ∃ p, okP p ∧ l = txtP p
  · obtain ⟨p, hp, rfl⟩ := hx
    rw [cut_txt] at h
    obtain ⟨rfl, h2⟩ := Prod.mk.inj h
    obtain ⟨rfl, rfl⟩ := Prod.mk.inj h2
    have b1 := hp.1; have b2 := hp.2.1; have b3 := hp.2.2
    rw [parS_some hp, if_pos rfl, (rd_iff (v := p.1)).2 ⟨rfl, by omega, by omega⟩, (rd_iff (v := p.2)).2 ⟨rfl, by omega, by omega⟩]
    dsimp only
    rw [if_pos ⟨b1, b2, b3⟩]
  · rw [parS_none (fun p h1 h2 => hx ⟨p, h1, h2⟩)]
    by_cases hf : f = true
    · rw [if_pos hf]
      split
      · rename_i x y hx1 hy1
        split
        · rename_i hv
          exfalso
          have hc := cut_is (l := l) (by rw [h]; exact hf)
          rw [h] at hc
          exact hx ⟨(x, y), hv, by rw [hc]; unfold txtP; rw [(rd_iff.1 hx1).1, (rd_iff.1 hy1).1]⟩
        · rfl
      · rfl
    · rw [if_neg hf]
end Go.Proofs.YtolnbblikfpnbaaDoor

/-
  The walk of the reference's CheckCurve, SameCurve.
-/
set_option linter.unusedSimpArgs false
set_option linter.unusedVariables false
namespace Go.Proofs.YtolnbblikfpnbaaDoor
open Go.RowKit

def okAt (xs ys : List Int) (j : Nat) : Prop := isQ (xs.getD j 0) = true ∧ isQ (ys.getD j 0) = true ∧ (0 < j → xs.getD (j - 1) 0 < xs.getD j 0 ∧ ys.getD (j - 1) 0 ≤ ys.getD j 0)
theorem goodC_iff {xs ys : List Int} (h1 : xs.length = ys.length) (h2 : 2 ≤ xs.length) : goodC xs ys ↔ ∀ j, j < xs.length → okAt xs ys j := by
  have hall : ∀ zs : List Int, (zs.all isQ = true ↔ ∀ j, j < zs.length → isQ (zs.getD j 0) = true) := by
    intro zs
    rw [List.all_eq_true]
    constructor
    · intro h j hj
      rw [List.getD_eq_getElem?_getD, List.getElem?_eq_getElem hj]
      exact h _ (List.getElem_mem hj)
    · intro h z hz
      obtain ⟨j, hj, rfl⟩ := List.getElem_of_mem hz
      have := h j hj
      rwa [List.getD_eq_getElem?_getD, List.getElem?_eq_getElem hj] at this
  unfold goodC preC rising okAt
  rw [hall, hall]
  constructor
  · rintro ⟨⟨_, _, p3, p4⟩, p5⟩ j hj
    refine ⟨p3 j hj, p4 j (by omega), fun h0 => ?_⟩
    have := p5 (j - 1) (by omega)
    rw [show j - 1 + 1 = j by omega] at this
    exact this
  · intro h
    refine ⟨⟨h1, h2, fun j hj => (h j hj).1, fun j hj => (h j (by omega)).2.1⟩, fun k hk => ?_⟩
    have := (h (k + 1) (by omega)).2.2 (by omega)
    rw [show k + 1 - 1 = k by omega] at this
    exact this

set_option maxHeartbeats 4000000 in
set_option maxRecDepth 20000 in
theorem RCheckCurve_any (a b : Option Addr) (ca cb : Nat) (xs ys : List Int) (w : World) (hx : xs.length ≤ 1000000) (hy : ys.length ≤ 1000000) (hA : IntAt a xs w) (hB : IntAt b ys w) :
    Calls Tryd.prog 27 #[.agg #[.slice a xs.length ca, .slice b ys.length cb]] w fun e w' => e = .returned (.int .i64 (checkC xs ys)) ∧ Below w.heap.size w w' := by
  by_cases h1 : 64 < xs.length ∨ 64 < ys.length
  · have hr : checkC xs ys = 6 := by unfold checkC; rw [if_pos (by omega)]
    rw [hr]
    have h64 : 64 < (xs.length : Int) ∨ ((xs.length : Int) ≤ 64 ∧ 64 < (ys.length : Int)) := by omega
    clear hr h1 hA hB hx hy
    rcases h64 with h | ⟨h, h'⟩
    all_goals
      go_enter Tryd.func27, Tryd.ntmps27
      go_wp2_with fail
      go_ret
      exact ⟨rfl, (by repeat' (first | exact Below.refl _ _ | assumption | apply bDrewN | apply bDrew | apply bAlloc | (refine bSet ?_ ?_ _) | (refine bStep ?_ (by assumption)) | omega | (simp <;> omega)))⟩
  by_cases h2 : xs.length = ys.length ∧ 2 ≤ xs.length
  · obtain ⟨h2, h3⟩ := h2
    have hg := goodC_iff h2 h3
    have hr1 : Hid ((∀ j, j < xs.length → okAt xs ys j) → checkC xs ys = 0) := fun h => by unfold checkC; rw [if_neg (by omega), if_pos (hg.2 h)]
    have hr2 : Hid (∀ j, j < xs.length → ¬ okAt xs ys j → checkC xs ys = 2) := fun j hj h => by unfold checkC; rw [if_neg (by omega), if_neg (fun c => h (hg.1 c j hj))]
    generalize checkC xs ys = r at *
    have HA := Lib.hid hA
    have HB := Lib.hid hB
    have H2 := Lib.hid h2
    have h3' : 2 ≤ (xs.length : Int) := by omega
    have h4' : (xs.length : Int) ≤ 64 := by omega
    rw [← h2]
    clear h1 h2 hg hA hB hy
    go_enter Tryd.func27, Tryd.ntmps27
    go_wp2_with fail
    go_loopw [3] (fun i wr => ∃ (k n : Nat), k ≤ xs.length ∧ i = .int .i64 k ∧ wr = (w.alloc (.cells #[.slice a xs.length ca, .slice b xs.length cb] 33)).drewN n ∧ Hid (∀ j, j < k → okAt xs ys j)) (fun i _ => xs.length - (intOf i).toNat)
    case atStart => exact ⟨0, 0, by omega, rfl, rfl, fun j hj => by omega⟩
    case round =>
      obtain ⟨k, n, hk, rfl, rfl, HI⟩ := hrel
      by_cases hlt : k < xs.length
      · have hlt2 : k < ys.length := by rw [← H2.out]; exact hlt
        obtain ⟨bu, ou, rfl, -⟩ := HA.out.at_ hlt
        obtain ⟨bv, ov, rfl, -⟩ := HB.out.at_ hlt2
        have hne : xs ≠ [] := fun e => by rw [e] at hlt; simp at hlt
        have hne2 : ys ≠ [] := fun e => by rw [e] at hlt2; simp at hlt2
        obtain ⟨_, _, e1, hbu, hcx⟩ := HA.out hne
        cases e1
        obtain ⟨_, _, e2, hbv, hcy⟩ := HB.out hne2
        cases e2
        have c1 := hcx k hlt
        have c2 := hcy k hlt2
        have c3 := hcx (k - 1) (by omega)
        have c4 := hcy (k - 1) (by omega)
        have hok : Hid (okAt xs ys k → ∀ j, j < k + 1 → okAt xs ys j) := fun h j hj => by
          rcases Nat.lt_or_ge j k with h' | h'
          · exact HI.out j h'
          · obtain rfl : j = k := by omega
            exact h
        have hno : Hid (¬ okAt xs ys k → r = 2) := hr2.out k hlt
        clear hcx hcy HI hr1 hr2 H2 hne hne2
        unfold okAt at hok hno
        generalize xs.getD k 0 = x at *
        generalize ys.getD k 0 = y at *
        generalize xs.getD (k - 1) 0 = x' at *
        generalize ys.getD (k - 1) 0 = y' at *
        have HC : Hid ((isQ x = false) ∨ (isQ x = true ∧ isQ y = false) ∨ (isQ x = true ∧ isQ y = true ∧ k = 0) ∨ (isQ x = true ∧ isQ y = true ∧ 0 < k ∧ x ≤ x') ∨ (isQ x = true ∧ isQ y = true ∧ 0 < k ∧ x' < x ∧ y < y') ∨ (isQ x = true ∧ isQ y = true ∧ 0 < k ∧ x' < x ∧ y' ≤ y)) := by
          unfold Hid
          cases isQ x <;> cases isQ y <;> simp <;> omega
        rcases HC.out with q1 | ⟨q1, q2⟩ | ⟨q1, q2, q3⟩ | ⟨q1, q2, q3, q4⟩ | ⟨q1, q2, q3, q4, q5⟩ | ⟨q1, q2, q3, q4, q5⟩
        · obtain rfl := hno.out (fun h => by rw [q1] at h; exact absurd h.1 (by decide))
          clear hok hno HC HA HB
          go_wp2_with fail
          go_quiet ((go_at_call 39; first | exact quiet_add_left (Is_any _ _) | exact quiet_left (Is_any _ _)))
          go_wp2_with fail
          go_ret
          exact ⟨rfl, (by repeat' (first | exact Below.refl _ _ | assumption | apply bDrewN | apply bDrew | apply bAlloc | (refine bSet ?_ ?_ _) | (refine bStep ?_ (by assumption)) | omega | (simp <;> omega)))⟩
        · obtain rfl := hno.out (fun h => by rw [q2] at h; exact absurd h.2.1 (by decide))
          clear hok hno HC HA HB
          go_wp2_with fail
          go_quiet ((go_at_call 39; first | exact quiet_add_left (Is_any _ _) | exact quiet_left (Is_any _ _)))
          go_wp2_with fail
          go_ret
          exact ⟨rfl, (by repeat' (first | exact Below.refl _ _ | assumption | apply bDrewN | apply bDrew | apply bAlloc | (refine bSet ?_ ?_ _) | (refine bStep ?_ (by assumption)) | omega | (simp <;> omega)))⟩
        · subst q3
          rw [Nat.add_zero] at c1 c2
          have hN := Lib.hid (hok.out ⟨q1, q2, fun h => absurd h (by omega)⟩)
          clear hok hno HC
          go_wp2_with fail
          go_quiet ((go_at_call 39; first | exact quiet_add_left (Is_any _ _) | exact quiet_left (Is_any _ _)))
          go_wp2_with fail
          go_roundw
          case rel => exact ⟨1, _, by omega, by go_num, by first | exact Go.World.drewN_drewN .. | (simp; rfl) | rfl, hN.out⟩
          case measure => (simp [intOf]; omega)
        all_goals
          obtain ⟨j, hj⟩ : ∃ j, k - 1 = j := ⟨_, rfl⟩
          have hk1 : (k : Int) - 1 = (j : Int) := by omega
          rw [hj] at c3 c4
          have hk2 : j < xs.length := by omega
          have hk4 : j < ys.length := by omega
          have hw : IntKind.i64.wrap (j : Int) = j := Go.IntWalk.i64_in _ ⟨by omega, by omega⟩
          clear hj
          have hk3 : 0 < (k : Int) := by omega
        · obtain rfl := hno.out (fun h => by have := (h.2.2 q3).1; omega)
          clear hok hno HC HA HB
          go_wp2_with fail
          go_quiet ((go_at_call 39; first | exact quiet_add_left (Is_any _ _) | exact quiet_left (Is_any _ _)))
          go_wp2_with fail
          go_ret
          exact ⟨rfl, (by repeat' (first | exact Below.refl _ _ | assumption | apply bDrewN | apply bDrew | apply bAlloc | (refine bSet ?_ ?_ _) | (refine bStep ?_ (by assumption)) | omega | (simp <;> omega)))⟩
        · obtain rfl := hno.out (fun h => by have := (h.2.2 q3).2; omega)
          clear hok hno HC HA HB
          go_wp2_with fail
          go_quiet ((go_at_call 39; first | exact quiet_add_left (Is_any _ _) | exact quiet_left (Is_any _ _)))
          go_wp2_with fail
          go_ret
          exact ⟨rfl, (by repeat' (first | exact Below.refl _ _ | assumption | apply bDrewN | apply bDrew | apply bAlloc | (refine bSet ?_ ?_ _) | (refine bStep ?_ (by assumption)) | omega | (simp <;> omega)))⟩
        · have hN := Lib.hid (hok.out ⟨q1, q2, fun _ => ⟨q4, q5⟩⟩)
          clear hok hno HC
          go_wp2_with fail
          go_quiet ((go_at_call 39; first | exact quiet_add_left (Is_any _ _) | exact quiet_left (Is_any _ _)))
          go_wp2_with fail
          clear hk1 hw
          go_roundw
          case rel => exact ⟨k + 1, _, by omega, by go_num, by first | exact Go.World.drewN_drewN .. | (simp; rfl) | rfl, hN.out⟩
          case measure => (simp [intOf]; omega)
      · obtain rfl := hr1.out (fun j hj => HI.out j (by omega))
        clear HA HB HI hr2
        go_wp2_with fail
        go_ret
        exact ⟨rfl, (by repeat' (first | exact Below.refl _ _ | assumption | apply bDrewN | apply bDrew | apply bAlloc | (refine bSet ?_ ?_ _) | (refine bStep ?_ (by assumption)) | omega | (simp <;> omega)))⟩
  · have hr : checkC xs ys = 2 := by unfold checkC; rw [if_neg (by omega), if_neg (fun h => h2 ⟨h.1.1, h.1.2.1⟩)]
    rw [hr]
    have h64 : (xs.length : Int) ≤ 64 := by omega
    have h65 : (ys.length : Int) ≤ 64 := by omega
    have hc : (xs.length : Int) ≠ (ys.length : Int) ∨ ((xs.length : Int) = (ys.length : Int) ∧ (xs.length : Int) < 2) := by omega
    clear hr h1 h2 hA hB hx hy
    rcases hc with hc | ⟨hc, hc2⟩
    · go_enter Tryd.func27, Tryd.ntmps27
      go_wp2_with fail
      go_ret
      exact ⟨rfl, (by repeat' (first | exact Below.refl _ _ | assumption | apply bDrewN | apply bDrew | apply bAlloc | (refine bSet ?_ ?_ _) | (refine bStep ?_ (by assumption)) | omega | (simp <;> omega)))⟩
    · have hc' : xs.length = ys.length := by omega
      rw [← hc']
      clear hc hc'
      go_enter Tryd.func27, Tryd.ntmps27
      go_wp2_with fail
      go_ret
      exact ⟨rfl, (by repeat' (first | exact Below.refl _ _ | assumption | apply bDrewN | apply bDrew | apply bAlloc | (refine bSet ?_ ?_ _) | (refine bStep ?_ (by assumption)) | omega | (simp <;> omega)))⟩

end Go.Proofs.YtolnbblikfpnbaaDoor
