/-
  The walk of the law QuantityHalves.
-/
import Derived.Test.YtkldlmbccdfjdaaG4Boxes
import Derived.Test.YtkldlmbccdfjdaaG5Boxes
import Derived.Test.YtkldlmbccdfjdaaG3Boxes
import Derived.Maps.AppendAt
import Derived.Below
import Derived.Test.YtkldlmbccdfjdaaG2Boxes
set_option linter.unusedSimpArgs false
set_option linter.unusedVariables false
namespace Go.Proofs.Ytkldlmbccdfjdaa
open Go.RowKit

def flatI (xs : List Int) : List Value := xs.map (Value.int .i64)
/-- The slice v owns the numbers xs, in a block from B on. -/
def IntOwn (W : World) (B : Nat) (v : Value) (xs : List Int) : Prop := W.ownsRow B 2 1 v xs.length (flatI xs)
theorem IntOwn.nil {W : World} {B : Nat} : IntOwn W B (.slice none 0 0) [] := ⟨rfl, Or.inl ⟨rfl, rfl⟩⟩
theorem own_step {W w2 : World} {B e s : Nat} {v : Value} {n : Nat} {xs : List Value} (h : W.ownsRow B e s v n xs) (hb : Below W.heap.size W w2) : w2.ownsRow B e s v n xs := by
  obtain ⟨h1, h2⟩ := h
  refine ⟨h1, ?_⟩
  rcases h2 with h2 | ⟨g, cap, cur, q1, q2, q3, q4⟩
  · exact Or.inl h2
  · exact Or.inr ⟨g, cap, cur, q1, q2, blk_step q3 hb, q4⟩
theorem IntOwn.step {W w2 : World} {B : Nat} {v : Value} {xs : List Int} (h : IntOwn W B v xs) (hb : Below W.heap.size W w2) : IntOwn w2 B v xs := own_step h hb
theorem IntOwn.row {W : World} {B : Nat} {v : Value} {xs : List Int} (h : IntOwn W B v xs) : IntRow v xs W := by
  obtain ⟨h1, h2⟩ := h
  rcases h2 with ⟨rfl, h2⟩ | ⟨g, cap, cur, rfl, q2, q3, q4, q5, q6, q7⟩
  · exact ⟨none, 0, by rw [h2], fun hn => absurd (List.length_eq_zero_iff.1 h2) hn⟩
  · refine ⟨_, _, rfl, fun _ => ⟨g, 0, rfl, blk_lt q3, fun j hj => ?_⟩⟩
    have hf : (flatI xs)[j]? = some (.int .i64 (xs.getD j 0)) := by simp [flatI, List.getD_eq_getElem?_getD, List.getElem?_eq_getElem hj]
    rw [← q7, List.getElem?_take_of_lt (by omega)] at hf
    exact blk_cell q3 (by simpa using hf)
theorem IntOwn.more {W : World} {B : Nat} {v : Value} {xs : List Int} {x : Int} (h : W.ownsRow B 2 1 v (xs.length + 1) (flatI xs ++ [.int .i64 x])) : IntOwn W B v (xs ++ [x]) := by
  unfold IntOwn flatI
  rw [List.map_append, List.length_append]
  exact h
theorem infoI : (Try.prog.info? 2).map (fun i => (i.zero, i.size, i.bytes)) = some (some (.int .i64 0), 1, 8) := by kernel_rfl
theorem one_cells (W : World) (x : Int) (T : TypeId) : ∀ j u, [Value.int .i64 x][j]? = some u → (W.alloc (.cells #[.int .i64 x] T)).cell? ((⟨W.heap.size, 0, none⟩ : Addr).add j) = some u := by
  intro j u hj
  match j, hj with
  | 0, hj => simp at hj; subst hj; simp [Addr.add]
theorem one_one (x : Int) : ∀ u ∈ [Value.int .i64 x], u.oneCell' = true := by
  intro u hu
  simp at hu
  rw [hu]; rfl
/-- A row of spans and a row of numbers never lie in one block. -/
theorem own_apart {W : World} {B : Nat} {v u : Value} {n m : Nat} {xs ys : List Value} (h : W.ownsRow B 40 2 v n xs) (g : W.ownsRow B 2 1 u m ys) : v.ownBlock = none ∨ v.ownBlock ≠ u.ownBlock := by
  rcases h.2 with ⟨rfl, _⟩ | ⟨b1, cap, cur, rfl, q2, q3, _⟩
  · exact Or.inl rfl
  · right
    rcases g.2 with ⟨rfl, _⟩ | ⟨b2, cap2, cur2, rfl, r2, r3, _⟩
    · intro e; cases e
    · intro e
      simp only [Value.ownBlock, Option.some.injEq] at e
      rw [e, r3] at q3
      simp only [Option.some.injEq, Obj.cells.injEq] at q3
      exact absurd q3.2.1 (by decide)
theorem own_apart' {W : World} {B : Nat} {v u : Value} {n m : Nat} {xs ys : List Value} (h : W.ownsRow B 40 2 v n xs) (g : W.ownsRow B 2 1 u m ys) : u.ownBlock = none ∨ u.ownBlock ≠ v.ownBlock := by
  rcases own_apart h g with e | e
  · cases hu : u.ownBlock with
    | none => exact Or.inl rfl
    | some b => exact Or.inr (by rw [e]; simp)
  · exact Or.inr (fun c => e c.symm)

abbrev Sm3 := Int × Int × Int
def sm0 : Sm3 := (0, 0, 0)
/-- A slice of small spans. -/
def SmAt (a : Option Addr) (l : List Sm3) (W : World) : Prop := l ≠ [] → ∃ b off, a = some ⟨b, off, none⟩ ∧ b < W.heap.size ∧ ∀ k, k < l.length →
  W.cell? ⟨b, off + k * 3, none⟩ = some (.int .i16 (l.getD k sm0).1) ∧ W.cell? ⟨b, off + k * 3 + 1, none⟩ = some (.int .i16 (l.getD k sm0).2.1) ∧ W.cell? ⟨b, off + k * 3 + 2, none⟩ = some (.int .u16 (l.getD k sm0).2.2)
def SmOk (s : Sm3) : Prop := -32768 ≤ s.1 ∧ s.1 ≤ 32767 ∧ -32768 ≤ s.2.1 ∧ s.2.1 ≤ 32767 ∧ 0 ≤ s.2.2 ∧ s.2.2 ≤ 65535
def spansOf (l : List Sm3) : List (Int × Int) := l.map fun s => spanOf s.1 s.2.1
def numsOf (l : List Sm3) : List Int := l.map fun s => numOf s.1 s.2.1 s.2.2
theorem spansOf_len (l : List Sm3) : (spansOf l).length = l.length := by simp [spansOf]
theorem numsOf_len (l : List Sm3) : (numsOf l).length = l.length := by simp [numsOf]
theorem spansOf_take (l : List Sm3) (k : Nat) (hk : k < l.length) : spansOf (l.take (k + 1)) = spansOf (l.take k) ++ [spanOf (l.getD k sm0).1 (l.getD k sm0).2.1] := by
  have e : l.getD k sm0 = l[k] := by simp [List.getD_eq_getElem?_getD, List.getElem?_eq_getElem hk]
  rw [List.take_succ_eq_append_getElem hk, e]
  unfold spansOf
  rw [List.map_append]
  rfl
theorem numsOf_take (l : List Sm3) (k : Nat) (hk : k < l.length) : numsOf (l.take (k + 1)) = numsOf (l.take k) ++ [numOf (l.getD k sm0).1 (l.getD k sm0).2.1 (l.getD k sm0).2.2] := by
  have e : l.getD k sm0 = l[k] := by simp [List.getD_eq_getElem?_getD, List.getElem?_eq_getElem hk]
  rw [List.take_succ_eq_append_getElem hk, e]
  unfold numsOf
  rw [List.map_append]
  rfl
theorem spansOf_get {l : List Sm3} {k : Nat} (hk : k < l.length) : (spansOf l).getD k (0, 0) = spanOf (l.getD k sm0).1 (l.getD k sm0).2.1 := by
  simp [spansOf, List.getD_eq_getElem?_getD, List.getElem?_eq_getElem hk]
theorem numsOf_get {l : List Sm3} {k : Nat} (hk : k < l.length) : (numsOf l).getD k 0 = numOf (l.getD k sm0).1 (l.getD k sm0).2.1 (l.getD k sm0).2.2 := by
  simp [numsOf, List.getD_eq_getElem?_getD, List.getElem?_eq_getElem hk]
theorem take_get {l : List Sm3} {n k : Nat} (hk : k < n) : (l.take n).getD k sm0 = l.getD k sm0 := by
  simp [List.getD_eq_getElem?_getD, List.getElem?_take_of_lt hk]

/-- What the law holds on to. -/
def HaSt (x y b z p : Value) (low high L : List (Int × Int)) (xs : List Int) (W : World) : Prop := SpRow x low W ∧ SpRow y high W ∧ SpRow b L W ∧ SpRow z L W ∧ IntRow p xs W
theorem HaSt.step {x y b z p : Value} {low high L : List (Int × Int)} {xs : List Int} {W w2 : World} (h : HaSt x y b z p low high L xs W) (hb : Below W.heap.size W w2) : HaSt x y b z p low high L xs w2 :=
  ⟨h.1.step hb, h.2.1.step hb, h.2.2.1.step hb, h.2.2.2.1.step hb, h.2.2.2.2.step hb⟩
theorem HaSt.hx {x y b z p : Value} {low high L : List (Int × Int)} {xs : List Int} {W : World} (h : HaSt x y b z p low high L xs W) : SpRow x low W := h.1
theorem HaSt.hy {x y b z p : Value} {low high L : List (Int × Int)} {xs : List Int} {W : World} (h : HaSt x y b z p low high L xs W) : SpRow y high W := h.2.1
theorem HaSt.hb {x y b z p : Value} {low high L : List (Int × Int)} {xs : List Int} {W : World} (h : HaSt x y b z p low high L xs W) : SpRow b L W := h.2.2.1
theorem HaSt.hz {x y b z p : Value} {low high L : List (Int × Int)} {xs : List Int} {W : World} (h : HaSt x y b z p low high L xs W) : SpRow z L W := h.2.2.2.1
theorem HaSt.hp {x y b z p : Value} {low high L : List (Int × Int)} {xs : List Int} {W : World} (h : HaSt x y b z p low high L xs W) : IntRow p xs W := h.2.2.2.2

end Go.Proofs.Ytkldlmbccdfjdaa

/-
  The walks of slices.Clone and slices.Equal over numbers; Same, SameCurve of the reference.
-/
set_option linter.unusedSimpArgs false
set_option linter.unusedVariables false
namespace Go.Proofs.Ytkldlmbccdfjdaa
open Go.RowKit

/-- The block g holds the row xs, and may be written. -/
def IntBlk (W : World) (g : Nat) (xs : List Int) : Prop := ∃ cur T, W.heap[g]? = some (.cells cur T (0, 0)) ∧ ∀ k, k < xs.length → cur[k]? = some (.int .i64 (xs.getD k 0))
theorem IntBlk.step {W w2 : World} {g : Nat} {xs : List Int} (h : IntBlk W g xs) (hb : Below W.heap.size W w2) : IntBlk w2 g xs := by
  obtain ⟨cur, T, h1, h2⟩ := h
  exact ⟨cur, T, blk_step h1 hb, h2⟩
theorem IntBlk.far {W : World} {g r o : Nat} {v : Value} {xs : List Int} (h : IntBlk W g xs) (hne : g ≠ r) : IntBlk (W.setCell ⟨r, o, none⟩ v) g xs := by
  obtain ⟨cur, T, h1, h2⟩ := h
  exact ⟨cur, T, blk_set_other h1 hne, h2⟩
theorem getDI_set {l : List Int} {i k : Nat} {s : Int} (hi : i < l.length) : (l.set i s).getD k 0 = if i = k then s else l.getD k 0 := by
  simp only [List.getD_eq_getElem?_getD, List.getElem?_set]
  split
  · rename_i h; subst h; simp [hi]
  · rfl
theorem IntBlk.set {W : World} {g i : Nat} {y : Int} {xs : List Int} (h : IntBlk W g xs) (hi : i < xs.length) : IntBlk (W.setCell ⟨g, i, none⟩ (.int .i64 y)) g (xs.set i y) := by
  obtain ⟨cur, T, h1, h2⟩ := h
  refine ⟨_, T, blk_set h1, fun k hk => ?_⟩
  rw [List.length_set] at hk
  have q1 := h2 k hk
  have q3 := h2 i hi
  have hlt : i < cur.size := (Array.getElem?_eq_some_iff.1 q3).1
  rw [getDI_set hi, Array.getElem?_setIfInBounds]
  by_cases e : i = k
  · subst e
    rw [if_pos rfl, if_pos rfl, if_pos hlt]
  · rw [if_neg e, if_neg e]
    exact q1
theorem IntBlk.at_ {W : World} {g : Nat} {xs : List Int} (h : IntBlk W g xs) : IntAt (some ⟨g, 0, none⟩) xs W := fun _ => by
  obtain ⟨cur, T, h1, h2⟩ := h
  exact ⟨g, 0, rfl, blk_lt h1, fun j hj => blk_cell h1 (by simpa using h2 j hj)⟩
theorem IntBlk.cells {W : World} {g : Nat} {xs : List Int} (h : IntBlk W g xs) {k : Nat} (hk : k < xs.length) : W.cell? ⟨g, k, none⟩ = some (.int .i64 (xs.getD k 0)) ∧ W.frozen? ⟨g, k, none⟩ = false := by
  obtain ⟨cur, T, h1, h2⟩ := h
  exact ⟨blk_cell h1 (h2 k hk), blk_free h1⟩
theorem IntOwn.blk {W : World} {B : Nat} {v : Value} {xs : List Int} (h : IntOwn W B v xs) (hn : xs ≠ []) : ∃ g c, v = .slice (some ⟨g, 0, none⟩) xs.length c ∧ B ≤ g ∧ IntBlk W g xs := by
  obtain ⟨h1, h2⟩ := h
  rcases h2 with ⟨rfl, h2⟩ | ⟨g, cap, cur, rfl, q2, q3, q4, q5, q6, q7⟩
  · exact absurd (List.length_eq_zero_iff.1 h2) hn
  · refine ⟨_, _, rfl, q2, cur, _, q3, fun j hj => ?_⟩
    have hf : (flatI xs)[j]? = some (.int .i64 (xs.getD j 0)) := by simp [flatI, List.getD_eq_getElem?_getD, List.getElem?_eq_getElem hj]
    rw [← q7, List.getElem?_take_of_lt (by omega)] at hf
    simpa using hf
theorem flatI_one {xs : List Int} : ∀ u ∈ flatI xs, u.oneCell' = true := by
  intro u hu
  unfold flatI at hu
  obtain ⟨x, _, rfl⟩ := List.mem_map.1 hu
  rfl
theorem flatI_len (xs : List Int) : (flatI xs).length = xs.length := by simp [flatI]

set_option maxHeartbeats 1000000 in
set_option maxRecDepth 20000 in
theorem CloneI_row (a : Option Addr) (c : Nat) (xs : List Int) (w : World) (hl : xs.length ≤ 1000000) (hv : IntAt a xs w) :
    Calls Try.prog 40 #[.slice a xs.length c] w fun e w' => ∃ x, e = .returned x ∧ IntOwn w' w.heap.size x xs ∧ Below w.heap.size w w' := by
  obtain ⟨i0, hi, hz0, hz1, hz2⟩ := info_parts infoI
  have HV := Lib.hid hv
  clear hv
  cases a with
  | none =>
    have hn : xs = [] := by
      by_cases h : xs = []
      · exact h
      · obtain ⟨b, off, h1, _⟩ := HV.out h
        cases h1
    subst hn
    clear HV
    have hE := Lib.run_eql_slice_nil (P := Try.prog) w 22 2 none 0 c 0 0 Try.underlying22
    go_enter Try.func40, Try.ntmps40
    go_wp2_with fail
    go_ret
    exact ⟨_, rfl, IntOwn.nil, Below.refl _ _⟩
  | some ad =>
    have hE := Lib.run_eql_slice_nil (P := Try.prog) w 22 2 (some ad) xs.length c 0 0 Try.underlying22
    have hcell : Hid (∀ j u, (flatI xs)[j]? = some u → (w.alloc (.cells #[] 2)).cell? (ad.add j) = some u) := by
      intro j u hu
      by_cases hn : xs = []
      · subst hn; simp [flatI] at hu
      · obtain ⟨b, off, he, hb, hc⟩ := HV.out hn
        cases he
        have hj : j < xs.length := by rw [← flatI_len]; exact (List.getElem?_eq_some_iff.1 hu).1
        have e : u = .int .i64 (xs.getD j 0) := by
          have : (flatI xs)[j]? = some (.int .i64 (xs.getD j 0)) := by simp [flatI, List.getD_eq_getElem?_getD, List.getElem?_eq_getElem hj]
          rw [this] at hu; exact (Option.some.inj hu).symm
        rw [e]
        have := cell_step (hc j hj) (bAl' (W := w) (o := .cells #[] 2))
        have hadd : ((⟨b, off, none⟩ : Addr).add j) = ⟨b, off + j, none⟩ := by simp [Addr.add]
        rw [hadd]
        exact this
    have hown : Hid ((w.alloc (.cells #[] 2)).ownsRow w.heap.size 2 1 (.slice (some ⟨w.heap.size, 0, none⟩) 0 0) 0 []) :=
      ⟨rfl, Or.inr ⟨w.heap.size, 0, #[], rfl, Nat.le_refl _, blk_new _ _, by omega, by decide, rfl, rfl⟩⟩
    have hlen : (flatI xs).length = xs.length * 1 := by rw [flatI_len]; omega
    have hone := flatI_one (xs := xs)
    have hfin : Hid (∀ (v : Value) (W : World), W.ownsRow w.heap.size 2 1 v (0 + xs.length) ([] ++ flatI xs) → IntOwn W w.heap.size v xs) := fun v W h => by
      rw [Nat.zero_add, List.nil_append] at h; exact h
    generalize flatI xs = FF at *
    clear HV
    go_enter Try.func40, Try.ntmps40
    go_wp2_with (at_builtin; refine wpList_append_own _ rfl (.tmp 5) (.tmp 6) 22 rfl (w.heap.size) 2 i0 (.int .i64 0) 1 8 Try.underlying22 hi hz0 hz1 hz2 rfl (by decide) _ _ _ rfl hown.out ad xs.length c FF rfl hlen hcell.out hone (by unfold maxLen; omega) (by omega) (by simp) ?_; intro v' w1 hown' hgrow hnil)
    have hO := hfin.out v' w1 hown'
    have hB : Below w.heap.size w w1 := (bAl' (W := w)).grown hgrow (by simp) (own_ge hown.out)
    clear hown' hgrow hown hcell hfin hnil
    go_wp2_with fail
    go_ret
    exact ⟨_, rfl, hO, hB⟩

theorem ints_eq {l m : List Int} (h3 : l.length = m.length) (h : ∀ k, k < l.length → l.getD k 0 = m.getD k 0) : l = m := by
  refine List.ext_getElem h3 fun k h1 h2 => ?_
  have := h k h1
  simpa [List.getD_eq_getElem?_getD, List.getElem?_eq_getElem h1, List.getElem?_eq_getElem h2] using this

set_option maxHeartbeats 1000000 in
set_option maxRecDepth 20000 in
theorem EqualI_row (a b : Option Addr) (ca cb : Nat) (l m : List Int) (w : World) (hl : l.length ≤ 1000000) (hm : m.length ≤ 1000000) (hA : IntAt a l w) (hB : IntAt b m w) :
    Calls Try.prog 44 #[.slice a l.length ca, .slice b m.length cb] w fun e w' => e = .returned (.bool (decide (l = m))) ∧ Below w.heap.size w w' := by
  by_cases h3 : l.length = m.length
  · have hg : ∀ B : Bool, (B = true ↔ ∀ k, k < l.length → l.getD k 0 = m.getD k 0) → B = decide (l = m) := by
      intro B hB
      rw [Bool.eq_iff_iff, hB, decide_eq_true_eq]
      constructor
      · exact ints_eq h3
      · intro h k _; rw [h]
    generalize decide (l = m) = r at *
    have HG := Lib.hid hg
    have H3 := Lib.hid h3
    rw [← h3]
    have HA := Lib.hid hA
    have HB := Lib.hid hB
    clear hg h3 hA hB hm
    go_enter Try.func44, Try.ntmps44
    go_wp2_with fail
    go_loopw [13] (fun i wr => ∃ (k n : Nat), k ≤ l.length ∧ i = .int .i64 k ∧ wr = w.drewN n ∧ Hid (∀ j, j < k → l.getD j 0 = m.getD j 0)) (fun i _ => l.length - (intOf i).toNat)
    case atStart => exact ⟨0, 0, by omega, rfl, rfl, fun j hj => by omega⟩
    case round =>
      obtain ⟨k, n, hk, rfl, rfl, HI⟩ := hrel
      by_cases hlt : k < l.length
      · have hlt2 : k < m.length := by rw [← H3.out]; exact hlt
        obtain ⟨bu, ou, rfl, q1⟩ := HA.out.at_ hlt
        obtain ⟨bv, ov, rfl, q3⟩ := HB.out.at_ hlt2
        have hgk : l.getD k 0 = l[k] := by simp [List.getD, List.getElem?_eq_getElem hlt]
        have hgm : m.getD k 0 = m[k] := by simp [List.getD, List.getElem?_eq_getElem hlt2]
        have HI2 : Hid (l[k] = m[k] → ∀ j, j < k + 1 → l.getD j 0 = m.getD j 0) := by
          intro h j hj
          rcases Nat.lt_or_ge j k with h' | h'
          · exact HI.out j h'
          · obtain rfl : j = k := by omega
            rw [hgk, hgm]; exact h
        have HN2 : Hid (l[k] ≠ m[k] → r = false) := by
          intro h
          refine (HG.out false ⟨fun h => absurd h (by decide), fun h' => ?_⟩).symm
          have := h' k hlt
          rw [hgk, hgm] at this
          exact absurd this h
        clear hgk hgm HG HI H3
        generalize l[k] = x1 at *
        generalize m[k] = y1 at *
        by_cases hx1 : x1 = y1
        · subst hx1
          have HI3 := Lib.hid (HI2.out rfl)
          clear HI2 HN2
          go_wp2_with fail
          go_quiet (fail)
          go_wp2_with fail
          go_roundw
          case rel => exact ⟨k + 1, _, by omega, by go_num, by first | exact Go.World.drewN_drewN .. | (simp; rfl) | rfl, HI3.out⟩
          case measure => (simp [intOf]; omega)
        · obtain rfl := HN2.out hx1
          clear HI2 HN2
          go_wp2_with fail
          go_quiet (fail)
          go_wp2_with fail
          go_ret
          exact ⟨rfl, (by repeat' (first | exact Below.refl _ _ | assumption | apply bDrewN | apply bDrew | apply bAlloc | (refine bSet ?_ ?_ _) | (refine bStep ?_ (by assumption)) | omega | (simp <;> omega)))⟩
      · obtain rfl : r = true := (HG.out true ⟨fun _ j hj => HI.out j (by omega), fun _ => rfl⟩).symm
        clear HA HB HI HG
        go_wp2_with fail
        go_ret
        exact ⟨rfl, (by repeat' (first | exact Below.refl _ _ | assumption | apply bDrewN | apply bDrew | apply bAlloc | (refine bSet ?_ ?_ _) | (refine bStep ?_ (by assumption)) | omega | (simp <;> omega)))⟩
  · have hr : decide (l = m) = false := decide_eq_false (fun h => h3 (by rw [h]))
    rw [hr]
    have h3' : (l.length : Int) ≠ (m.length : Int) := by omega
    clear hr hl hm h3 hA hB
    go_enter Try.func44, Try.ntmps44
    go_wp2_with fail
    go_ret
    exact ⟨rfl, (by repeat' (first | exact Below.refl _ _ | assumption | apply bDrewN | apply bDrew | apply bAlloc | (refine bSet ?_ ?_ _) | (refine bStep ?_ (by assumption)) | omega | (simp <;> omega)))⟩

set_option maxHeartbeats 1000000 in
set_option maxRecDepth 20000 in
theorem SameI_row (a b : Option Addr) (ca cb : Nat) (l m : List Int) (w : World) (hl : l.length ≤ 1000000) (hm : m.length ≤ 1000000) (hA : IntAt a l w) (hB : IntAt b m w) :
    Calls Try.prog 43 #[.slice a l.length ca, .slice b m.length cb] w fun e w' => e = .returned (.bool (decide (l = m))) ∧ Below w.heap.size w w' := by
  by_cases h3 : l.length = m.length
  · have hg : ∀ B : Bool, (B = true ↔ ∀ k, k < l.length → l.getD k 0 = m.getD k 0) → B = decide (l = m) := by
      intro B hB
      rw [Bool.eq_iff_iff, hB, decide_eq_true_eq]
      constructor
      · exact ints_eq h3
      · intro h k _; rw [h]
    generalize decide (l = m) = r at *
    have HG := Lib.hid hg
    have H3 := Lib.hid h3
    rw [← h3]
    have HA := Lib.hid hA
    have HB := Lib.hid hB
    clear hg h3 hA hB hm
    go_enter Try.func43, Try.ntmps43
    go_wp2_with fail
    go_loopw [5] (fun i wr => ∃ (k n : Nat), k ≤ l.length ∧ i = .int .i64 k ∧ wr = w.drewN n ∧ Hid (∀ j, j < k → l.getD j 0 = m.getD j 0)) (fun i _ => l.length - (intOf i).toNat)
    case atStart => exact ⟨0, 0, by omega, rfl, rfl, fun j hj => by omega⟩
    case round =>
      obtain ⟨k, n, hk, rfl, rfl, HI⟩ := hrel
      by_cases hlt : k < l.length
      · have hlt2 : k < m.length := by rw [← H3.out]; exact hlt
        obtain ⟨bu, ou, rfl, q1⟩ := HA.out.at_ hlt
        obtain ⟨bv, ov, rfl, q3⟩ := HB.out.at_ hlt2
        have hgk : l.getD k 0 = l[k] := by simp [List.getD, List.getElem?_eq_getElem hlt]
        have hgm : m.getD k 0 = m[k] := by simp [List.getD, List.getElem?_eq_getElem hlt2]
        have HI2 : Hid (l[k] = m[k] → ∀ j, j < k + 1 → l.getD j 0 = m.getD j 0) := by
          intro h j hj
          rcases Nat.lt_or_ge j k with h' | h'
          · exact HI.out j h'
          · obtain rfl : j = k := by omega
            rw [hgk, hgm]; exact h
        have HN2 : Hid (l[k] ≠ m[k] → r = false) := by
          intro h
          refine (HG.out false ⟨fun h => absurd h (by decide), fun h' => ?_⟩).symm
          have := h' k hlt
          rw [hgk, hgm] at this
          exact absurd this h
        clear hgk hgm HG HI H3
        generalize l[k] = x1 at *
        generalize m[k] = y1 at *
        by_cases hx1 : x1 = y1
        · subst hx1
          have HI3 := Lib.hid (HI2.out rfl)
          clear HI2 HN2
          go_wp2_with fail
          go_quiet (fail)
          go_wp2_with fail
          go_roundw
          case rel => exact ⟨k + 1, _, by omega, by go_num, by first | exact Go.World.drewN_drewN .. | (simp; rfl) | rfl, HI3.out⟩
          case measure => (simp [intOf]; omega)
        · obtain rfl := HN2.out hx1
          clear HI2 HN2
          go_wp2_with fail
          go_quiet (fail)
          go_wp2_with fail
          go_ret
          exact ⟨rfl, (by repeat' (first | exact Below.refl _ _ | assumption | apply bDrewN | apply bDrew | apply bAlloc | (refine bSet ?_ ?_ _) | (refine bStep ?_ (by assumption)) | omega | (simp <;> omega)))⟩
      · obtain rfl : r = true := (HG.out true ⟨fun _ j hj => HI.out j (by omega), fun _ => rfl⟩).symm
        clear HA HB HI HG
        go_wp2_with fail
        go_ret
        exact ⟨rfl, (by repeat' (first | exact Below.refl _ _ | assumption | apply bDrewN | apply bDrew | apply bAlloc | (refine bSet ?_ ?_ _) | (refine bStep ?_ (by assumption)) | omega | (simp <;> omega)))⟩
  · have hr : decide (l = m) = false := decide_eq_false (fun h => h3 (by rw [h]))
    rw [hr]
    have h3' : (l.length : Int) ≠ (m.length : Int) := by omega
    clear hr hl hm h3 hA hB
    go_enter Try.func43, Try.ntmps43
    go_wp2_with fail
    go_ret
    exact ⟨rfl, (by repeat' (first | exact Below.refl _ _ | assumption | apply bDrewN | apply bDrew | apply bAlloc | (refine bSet ?_ ?_ _) | (refine bStep ?_ (by assumption)) | omega | (simp <;> omega)))⟩


end Go.Proofs.Ytkldlmbccdfjdaa

/-
  The walk of the reference's CheckCurve, SameCurve.
-/
set_option linter.unusedSimpArgs false
set_option linter.unusedVariables false
namespace Go.Proofs.Ytkldlmbccdfjdaa
open Go.RowKit

def okAt (xs ys : List Int) (j : Nat) : Prop := isQ (xs.getD j 0) = true ∧ isQ (ys.getD j 0) = true ∧ (0 < j → xs.getD (j - 1) 0 < xs.getD j 0 ∧ ys.getD (j - 1) 0 ≤ ys.getD j 0)
theorem goodC_iff {xs ys : List Int} (h1 : xs.length = ys.length) (h2 : 2 ≤ xs.length) : goodC xs ys ↔ ∀ j, j < xs.length → okAt xs ys j := by
  have hall : ∀ zs : List Int, (zs.all isQ = true ↔ ∀ j, j < zs.length → isQ (zs.getD j 0) = true) := by
    intro zs
    rw [List.all_eq_true]
    constructor
    · intro h j hj
      rw [List.getD_eq_getElem?_getD, List.getElem?_eq_getElem hj]
      exact h _ (List.getElem_mem hj)
    · intro h z hz
      obtain ⟨j, hj, rfl⟩ := List.getElem_of_mem hz
      have := h j hj
      rwa [List.getD_eq_getElem?_getD, List.getElem?_eq_getElem hj] at this
  unfold goodC preC rising okAt
  rw [hall, hall]
  constructor
  · rintro ⟨⟨_, _, p3, p4⟩, p5⟩ j hj
    refine ⟨p3 j hj, p4 j (by omega), fun h0 => ?_⟩
    have := p5 (j - 1) (by omega)
    rw [show j - 1 + 1 = j by omega] at this
    exact this
  · intro h
    refine ⟨⟨h1, h2, fun j hj => (h j hj).1, fun j hj => (h j (by omega)).2.1⟩, fun k hk => ?_⟩
    have := (h (k + 1) (by omega)).2.2 (by omega)
    rw [show k + 1 - 1 = k by omega] at this
    exact this

set_option maxHeartbeats 4000000 in
set_option maxRecDepth 20000 in
theorem RCheckCurve_any (a b : Option Addr) (ca cb : Nat) (xs ys : List Int) (w : World) (hx : xs.length ≤ 1000000) (hy : ys.length ≤ 1000000) (hA : IntAt a xs w) (hB : IntAt b ys w) :
    Calls Try.prog 41 #[.agg #[.slice a xs.length ca, .slice b ys.length cb]] w fun e w' => e = .returned (.int .i64 (checkC xs ys)) ∧ Below w.heap.size w w' := by
  by_cases h1 : 64 < xs.length ∨ 64 < ys.length
  · have hr : checkC xs ys = 6 := by unfold checkC; rw [if_pos (by omega)]
    rw [hr]
    have h64 : 64 < (xs.length : Int) ∨ ((xs.length : Int) ≤ 64 ∧ 64 < (ys.length : Int)) := by omega
    clear hr h1 hA hB hx hy
    rcases h64 with h | ⟨h, h'⟩
    all_goals
      go_enter Try.func41, Try.ntmps41
      go_wp2_with fail
      go_ret
      exact ⟨rfl, (by repeat' (first | exact Below.refl _ _ | assumption | apply bDrewN | apply bDrew | apply bAlloc | (refine bSet ?_ ?_ _) | (refine bStep ?_ (by assumption)) | omega | (simp <;> omega)))⟩
  by_cases h2 : xs.length = ys.length ∧ 2 ≤ xs.length
  · obtain ⟨h2, h3⟩ := h2
    have hg := goodC_iff h2 h3
    have hr1 : Hid ((∀ j, j < xs.length → okAt xs ys j) → checkC xs ys = 0) := fun h => by unfold checkC; rw [if_neg (by omega), if_pos (hg.2 h)]
    have hr2 : Hid (∀ j, j < xs.length → ¬ okAt xs ys j → checkC xs ys = 2) := fun j hj h => by unfold checkC; rw [if_neg (by omega), if_neg (fun c => h (hg.1 c j hj))]
    generalize checkC xs ys = r at *
    have HA := Lib.hid hA
    have HB := Lib.hid hB
    have H2 := Lib.hid h2
    have h3' : 2 ≤ (xs.length : Int) := by omega
    have h4' : (xs.length : Int) ≤ 64 := by omega
    rw [← h2]
    clear h1 h2 hg hA hB hy
    go_enter Try.func41, Try.ntmps41
    go_wp2_with fail
    go_loopw [3] (fun i wr => ∃ (k n : Nat), k ≤ xs.length ∧ i = .int .i64 k ∧ wr = (w.alloc (.cells #[.slice a xs.length ca, .slice b xs.length cb] 24)).drewN n ∧ Hid (∀ j, j < k → okAt xs ys j)) (fun i _ => xs.length - (intOf i).toNat)
    case atStart => exact ⟨0, 0, by omega, rfl, rfl, fun j hj => by omega⟩
    case round =>
      obtain ⟨k, n, hk, rfl, rfl, HI⟩ := hrel
      by_cases hlt : k < xs.length
      · have hlt2 : k < ys.length := by rw [← H2.out]; exact hlt
        obtain ⟨bu, ou, rfl, -⟩ := HA.out.at_ hlt
        obtain ⟨bv, ov, rfl, -⟩ := HB.out.at_ hlt2
        have hne : xs ≠ [] := fun e => by rw [e] at hlt; simp at hlt
        have hne2 : ys ≠ [] := fun e => by rw [e] at hlt2; simp at hlt2
        obtain ⟨_, _, e1, hbu, hcx⟩ := HA.out hne
        cases e1
        obtain ⟨_, _, e2, hbv, hcy⟩ := HB.out hne2
        cases e2
        have c1 := hcx k hlt
        have c2 := hcy k hlt2
        have c3 := hcx (k - 1) (by omega)
        have c4 := hcy (k - 1) (by omega)
        have hok : Hid (okAt xs ys k → ∀ j, j < k + 1 → okAt xs ys j) := fun h j hj => by
          rcases Nat.lt_or_ge j k with h' | h'
          · exact HI.out j h'
          · obtain rfl : j = k := by omega
            exact h
        have hno : Hid (¬ okAt xs ys k → r = 2) := hr2.out k hlt
        clear hcx hcy HI hr1 hr2 H2 hne hne2
        unfold okAt at hok hno
        generalize xs.getD k 0 = x at *
        generalize ys.getD k 0 = y at *
        generalize xs.getD (k - 1) 0 = x' at *
        generalize ys.getD (k - 1) 0 = y' at *
        have HC : Hid ((isQ x = false) ∨ (isQ x = true ∧ isQ y = false) ∨ (isQ x = true ∧ isQ y = true ∧ k = 0) ∨ (isQ x = true ∧ isQ y = true ∧ 0 < k ∧ x ≤ x') ∨ (isQ x = true ∧ isQ y = true ∧ 0 < k ∧ x' < x ∧ y < y') ∨ (isQ x = true ∧ isQ y = true ∧ 0 < k ∧ x' < x ∧ y' ≤ y)) := by
          unfold Hid
          cases isQ x <;> cases isQ y <;> simp <;> omega
        rcases HC.out with q1 | ⟨q1, q2⟩ | ⟨q1, q2, q3⟩ | ⟨q1, q2, q3, q4⟩ | ⟨q1, q2, q3, q4, q5⟩ | ⟨q1, q2, q3, q4, q5⟩
        · obtain rfl := hno.out (fun h => by rw [q1] at h; exact absurd h.1 (by decide))
          clear hok hno HC HA HB
          go_wp2_with fail
          go_quiet ((go_at_call 42; first | exact quiet_add_left (Is_any _ _) | exact quiet_left (Is_any _ _)))
          go_wp2_with fail
          go_ret
          exact ⟨rfl, (by repeat' (first | exact Below.refl _ _ | assumption | apply bDrewN | apply bDrew | apply bAlloc | (refine bSet ?_ ?_ _) | (refine bStep ?_ (by assumption)) | omega | (simp <;> omega)))⟩
        · obtain rfl := hno.out (fun h => by rw [q2] at h; exact absurd h.2.1 (by decide))
          clear hok hno HC HA HB
          go_wp2_with fail
          go_quiet ((go_at_call 42; first | exact quiet_add_left (Is_any _ _) | exact quiet_left (Is_any _ _)))
          go_wp2_with fail
          go_ret
          exact ⟨rfl, (by repeat' (first | exact Below.refl _ _ | assumption | apply bDrewN | apply bDrew | apply bAlloc | (refine bSet ?_ ?_ _) | (refine bStep ?_ (by assumption)) | omega | (simp <;> omega)))⟩
        · subst q3
          rw [Nat.add_zero] at c1 c2
          have hN := Lib.hid (hok.out ⟨q1, q2, fun h => absurd h (by omega)⟩)
          clear hok hno HC
          go_wp2_with fail
          go_quiet ((go_at_call 42; first | exact quiet_add_left (Is_any _ _) | exact quiet_left (Is_any _ _)))
          go_wp2_with fail
          go_roundw
          case rel => exact ⟨1, _, by omega, by go_num, by first | exact Go.World.drewN_drewN .. | (simp; rfl) | rfl, hN.out⟩
          case measure => (simp [intOf]; omega)
        all_goals
          obtain ⟨j, hj⟩ : ∃ j, k - 1 = j := ⟨_, rfl⟩
          have hk1 : (k : Int) - 1 = (j : Int) := by omega
          rw [hj] at c3 c4
          have hk2 : j < xs.length := by omega
          have hk4 : j < ys.length := by omega
          have hw : IntKind.i64.wrap (j : Int) = j := Go.IntWalk.i64_in _ ⟨by omega, by omega⟩
          clear hj
          have hk3 : 0 < (k : Int) := by omega
        · obtain rfl := hno.out (fun h => by have := (h.2.2 q3).1; omega)
          clear hok hno HC HA HB
          go_wp2_with fail
          go_quiet ((go_at_call 42; first | exact quiet_add_left (Is_any _ _) | exact quiet_left (Is_any _ _)))
          go_wp2_with fail
          go_ret
          exact ⟨rfl, (by repeat' (first | exact Below.refl _ _ | assumption | apply bDrewN | apply bDrew | apply bAlloc | (refine bSet ?_ ?_ _) | (refine bStep ?_ (by assumption)) | omega | (simp <;> omega)))⟩
        · obtain rfl := hno.out (fun h => by have := (h.2.2 q3).2; omega)
          clear hok hno HC HA HB
          go_wp2_with fail
          go_quiet ((go_at_call 42; first | exact quiet_add_left (Is_any _ _) | exact quiet_left (Is_any _ _)))
          go_wp2_with fail
          go_ret
          exact ⟨rfl, (by repeat' (first | exact Below.refl _ _ | assumption | apply bDrewN | apply bDrew | apply bAlloc | (refine bSet ?_ ?_ _) | (refine bStep ?_ (by assumption)) | omega | (simp <;> omega)))⟩
        · have hN := Lib.hid (hok.out ⟨q1, q2, fun _ => ⟨q4, q5⟩⟩)
          clear hok hno HC
          go_wp2_with fail
          go_quiet ((go_at_call 42; first | exact quiet_add_left (Is_any _ _) | exact quiet_left (Is_any _ _)))
          go_wp2_with fail
          clear hk1 hw
          go_roundw
          case rel => exact ⟨k + 1, _, by omega, by go_num, by first | exact Go.World.drewN_drewN .. | (simp; rfl) | rfl, hN.out⟩
          case measure => (simp [intOf]; omega)
      · obtain rfl := hr1.out (fun j hj => HI.out j (by omega))
        clear HA HB HI hr2
        go_wp2_with fail
        go_ret
        exact ⟨rfl, (by repeat' (first | exact Below.refl _ _ | assumption | apply bDrewN | apply bDrew | apply bAlloc | (refine bSet ?_ ?_ _) | (refine bStep ?_ (by assumption)) | omega | (simp <;> omega)))⟩
  · have hr : checkC xs ys = 2 := by unfold checkC; rw [if_neg (by omega), if_neg (fun h => h2 ⟨h.1.1, h.1.2.1⟩)]
    rw [hr]
    have h64 : (xs.length : Int) ≤ 64 := by omega
    have h65 : (ys.length : Int) ≤ 64 := by omega
    have hc : (xs.length : Int) ≠ (ys.length : Int) ∨ ((xs.length : Int) = (ys.length : Int) ∧ (xs.length : Int) < 2) := by omega
    clear hr h1 h2 hA hB hx hy
    rcases hc with hc | ⟨hc, hc2⟩
    · go_enter Try.func41, Try.ntmps41
      go_wp2_with fail
      go_ret
      exact ⟨rfl, (by repeat' (first | exact Below.refl _ _ | assumption | apply bDrewN | apply bDrew | apply bAlloc | (refine bSet ?_ ?_ _) | (refine bStep ?_ (by assumption)) | omega | (simp <;> omega)))⟩
    · have hc' : xs.length = ys.length := by omega
      rw [← hc']
      clear hc hc'
      go_enter Try.func41, Try.ntmps41
      go_wp2_with fail
      go_ret
      exact ⟨rfl, (by repeat' (first | exact Below.refl _ _ | assumption | apply bDrewN | apply bDrew | apply bAlloc | (refine bSet ?_ ?_ _) | (refine bStep ?_ (by assumption)) | omega | (simp <;> omega)))⟩

end Go.Proofs.Ytkldlmbccdfjdaa

/-
  A curve that is being made: its box, its two rows; objects that stay.
-/
set_option linter.unusedSimpArgs false
set_option linter.unusedVariables false
namespace Go.Proofs.Ytkldlmbccdfjdaa
open Go.RowKit
def Far (u v : Value) : Prop := ∀ k, u.ownBlock = some k → v.ownBlock = some k → False
theorem Far.symm {u v : Value} (h : Far u v) : Far v u := fun k h1 h2 => h k h2 h1
theorem Far.ne {u v : Value} (h : Far u v) : u.ownBlock = none ∨ u.ownBlock ≠ v.ownBlock := by
  cases hu : u.ownBlock with
  | none => exact Or.inl rfl
  | some k => exact Or.inr fun e => h k hu e.symm
theorem Far.nil {v : Value} : Far (.slice none 0 0) v := fun k h => by cases h
theorem blk_grown {W w' : World} {row : Option Nat} {b : Nat} {x : Obj} (h : W.heap[b]? = some x) (hg : W.grownBy w' row) (hne : some b ≠ row) : w'.heap[b]? = some x := (hg.block b (blk_lt h) hne).trans h
/-- The state: the result's box, the curve's box, objects that stay, the two rows. -/
structure CuQ (w : World) (L : List (Nat × Obj)) (R C B : Nat) (vx vy : Value) (xs ys : List Int) (W : World) : Prop where
  hB : w.heap.size ≤ R ∧ R < B ∧ w.heap.size ≤ C ∧ C < B ∧ R ≠ C
  hL : ∀ p ∈ L, p.1 < B ∧ p.1 ≠ R ∧ p.1 ≠ C
  bel : Below w.heap.size w W
  sz : B ≤ W.heap.size
  rb : W.heap[R]? = some (.cells #[.slice none 0 0, .slice none 0 0] 24)
  cb : W.heap[C]? = some (.cells #[vx, vy] 24)
  sb : ∀ p ∈ L, W.heap[p.1]? = some p.2
  ox : IntOwn W B vx xs
  oy : IntOwn W B vy ys
  far : Far vx vy
theorem CuQ.step {w W w2 : World} {L : List (Nat × Obj)} {R C B : Nat} {vx vy : Value} {xs ys : List Int} (h : CuQ w L R C B vx vy xs ys W) (hb : Below W.heap.size W w2) : CuQ w L R C B vx vy xs ys w2 :=
  ⟨h.hB, h.hL, bStep h.bel hb, Nat.le_trans h.sz hb.size, blk_step h.rb hb, blk_step h.cb hb, fun o e => blk_step (h.sb o e) hb, h.ox.step hb, h.oy.step hb, h.far⟩
theorem CuQ.grow {w W w1 : World} {L : List (Nat × Obj)} {R C B : Nat} {vx vy : Value} {xs ys : List Int} {o : Obj} {row : Option Nat} (h : CuQ w L R C B vx vy xs ys W) (hg : (W.alloc o).grownBy w1 row) (hr : ∀ k, row = some k → B ≤ k) :
    Below w.heap.size w w1 ∧ B ≤ w1.heap.size ∧ w1.heap[R]? = some (.cells #[.slice none 0 0, .slice none 0 0] 24) ∧ w1.heap[C]? = some (.cells #[vx, vy] 24) ∧ (∀ p ∈ L, w1.heap[p.1]? = some p.2) := by
  have hB := h.hB
  have hs := h.sz
  have e : (W.alloc o).heap.size = W.heap.size + 1 := by simp
  refine ⟨(bAlloc h.bel o).grown hg (by have := h.bel.size; omega) fun k hk => by have := hr k hk; omega, Nat.le_trans (by omega) hg.size, blk_grown (blk_alloc h.rb) hg fun e => ?_, blk_grown (blk_alloc h.cb) hg fun e => ?_, fun p hp => blk_grown (blk_alloc (h.sb p hp)) hg fun e => ?_⟩
  · have := hr _ e.symm; omega
  · have := hr _ e.symm; omega
  · have := hr _ e.symm; have := (h.hL p hp).1; omega
theorem own_keep {W : World} {B e s : Nat} {v : Value} {n : Nat} {xs : List Value} (h : W.ownsRow B e s v n xs) {b o : Nat} {u : Value} (hb : b < B) : (W.setCell ⟨b, o, none⟩ u).ownsRow B e s v n xs := ownsRow_setCell_below h hb u
theorem far_app {W : World} {o : Obj} {B : Nat} {a a' v : Value} {ws : List Int} (hv : IntOwn W B v ws) (hf : Far a v) (hat : a'.ownBlock = a.ownBlock ∨ a'.ownBlock = some (W.alloc o).heap.size) : Far a' v := fun k e1 e2 => by
  rcases hat with e | e
  · exact hf k (e.symm.trans e1) e2
  · have := (hv.lt k e2).2
    rw [e] at e1
    simp at e1
    omega
theorem CuQ.appX {w W w1 : World} {L : List (Nat × Obj)} {R C B : Nat} {vx vy vx' : Value} {xs ys : List Int} {o : Obj} {x : Int} (h : CuQ w L R C B vx vy xs ys W) (hown : w1.ownsRow B 2 1 vx' (xs.length + 1) (flatI xs ++ [.int .i64 x])) (hg : (W.alloc o).grownBy w1 vx.ownBlock)
    (hat : vx'.ownBlock = vx.ownBlock ∨ vx'.ownBlock = some (W.alloc o).heap.size) : CuQ w L R C B vx' vy (xs ++ [x]) ys (w1.setCell ⟨C, 0, none⟩ vx') := by
  obtain ⟨g1, g2, g3, g4, g5⟩ := h.grow hg (own_ge h.ox)
  have hB := h.hB
  refine ⟨h.hB, h.hL, g1.setCell (by show w.heap.size ≤ C; omega) _, by simpa using g2, blk_set_other g3 (by show R ≠ C; omega), (blk_set g4).trans rfl, fun p hp => blk_set_other (g5 p hp) (by show p.1 ≠ C; exact (h.hL p hp).2.2), own_keep (IntOwn.more hown) (by omega), own_keep (World.ownsRow.kept (World.ownsRow.alloc h.oy _) hg h.far.symm.ne) (by omega), far_app h.oy h.far hat⟩
theorem CuQ.appY {w W w1 : World} {L : List (Nat × Obj)} {R C B : Nat} {vx vy vy' : Value} {xs ys : List Int} {o : Obj} {y : Int} (h : CuQ w L R C B vx vy xs ys W) (hown : w1.ownsRow B 2 1 vy' (ys.length + 1) (flatI ys ++ [.int .i64 y])) (hg : (W.alloc o).grownBy w1 vy.ownBlock)
    (hat : vy'.ownBlock = vy.ownBlock ∨ vy'.ownBlock = some (W.alloc o).heap.size) : CuQ w L R C B vx vy' xs (ys ++ [y]) (w1.setCell ⟨C, 1, none⟩ vy') := by
  obtain ⟨g1, g2, g3, g4, g5⟩ := h.grow hg (own_ge h.oy)
  have hB := h.hB
  refine ⟨h.hB, h.hL, g1.setCell (by show w.heap.size ≤ C; omega) _, by simpa using g2, blk_set_other g3 (by show R ≠ C; omega), (blk_set g4).trans rfl, fun p hp => blk_set_other (g5 p hp) (by show p.1 ≠ C; exact (h.hL p hp).2.2), own_keep (World.ownsRow.kept (World.ownsRow.alloc h.ox _) hg h.far.ne) (by omega), own_keep (IntOwn.more hown) (by omega), (far_app h.ox h.far.symm hat).symm⟩
/-- What a walk reads of the state. -/
theorem CuQ.open_ {w W : World} {L : List (Nat × Obj)} {R C B : Nat} {vx vy : Value} {xs ys : List Int} (h : CuQ w L R C B vx vy xs ys W) : W.cell? ⟨R, 0, none⟩ = some (.slice none 0 0) ∧ W.cell? ⟨R, 1, none⟩ = some (.slice none 0 0) ∧ W.frozen? ⟨R, 0, none⟩ = false ∧ W.frozen? ⟨R, 1, none⟩ = false ∧
    W.cell? ⟨C, 0, none⟩ = some vx ∧ W.cell? ⟨C, 1, none⟩ = some vy ∧ W.frozen? ⟨C, 0, none⟩ = false ∧ W.frozen? ⟨C, 1, none⟩ = false ∧ C < W.heap.size ∧ R < W.heap.size :=
  ⟨blk_cell h.rb rfl, blk_cell h.rb rfl, blk_free h.rb, blk_free h.rb, blk_cell h.cb rfl, blk_cell h.cb rfl, blk_free h.cb, blk_free h.cb, blk_lt h.cb, blk_lt h.rb⟩
theorem mid_openQ {W : World} {C : Nat} {vx vy : Value} {T : TypeId} (h : W.heap[C]? = some (.cells #[vx, vy] T)) : W.cell? ⟨C, 0, none⟩ = some vx ∧ W.cell? ⟨C, 1, none⟩ = some vy ∧ W.frozen? ⟨C, 0, none⟩ = false ∧ W.frozen? ⟨C, 1, none⟩ = false ∧ C < W.heap.size :=
  ⟨blk_cell h rfl, blk_cell h rfl, blk_free h, blk_free h, blk_lt h⟩
theorem CuQ.done {w W : World} {L : List (Nat × Obj)} {R C B : Nat} {vx vy u v : Value} {xs ys : List Int} (h : CuQ w L R C B vx vy xs ys W) : IntRow vx xs ((W.setCell ⟨R, 0, none⟩ u).setCell ⟨R, 1, none⟩ v) ∧ IntRow vy ys ((W.setCell ⟨R, 0, none⟩ u).setCell ⟨R, 1, none⟩ v) := by
  have hB := h.hB
  exact ⟨IntOwn.row (own_keep (own_keep h.ox (by omega)) (by omega)), IntOwn.row (own_keep (own_keep h.oy (by omega)) (by omega))⟩
end Go.Proofs.Ytkldlmbccdfjdaa

/-
  Two rows cloned into a new box, in any order: what the region's operations have done.
-/
set_option linter.unusedSimpArgs false
set_option linter.unusedVariables false
namespace Go.Proofs.Ytkldlmbccdfjdaa
open Go.RowKit

/-- The slice x holds a copy of xs, in a block of numbers from B on. -/
def CloX (B : Nat) (xs : List Int) (x : Value) (W : World) : Prop :=
  ∃ g c cur, x = .slice (some ⟨g, 0, none⟩) xs.length c ∧ B ≤ g ∧ W.heap[g]? = some (.cells cur 2 (0, 0)) ∧ ∀ k, k < xs.length → cur[k]? = some (.int .i64 (xs.getD k 0))
theorem CloX.step {B : Nat} {xs : List Int} {x : Value} {W w2 : World} (h : CloX B xs x W) (hb : Below W.heap.size W w2) : CloX B xs x w2 := by
  obtain ⟨g, c, cur, h1, h2, h3, h4⟩ := h
  exact ⟨g, c, cur, h1, h2, blk_step h3 hb, h4⟩
theorem IntOwn.clo {B B2 : Nat} {xs : List Int} {x : Value} {W : World} (h : IntOwn W B x xs) (hn : xs ≠ []) (hB : B2 ≤ B) : CloX B2 xs x W := by
  obtain ⟨h1, h2⟩ := h
  rcases h2 with ⟨rfl, h2⟩ | ⟨g, cap, cur, rfl, q2, q3, q4, q5, q6, q7⟩
  · exact absurd (List.length_eq_zero_iff.1 h2) hn
  · refine ⟨_, _, cur, rfl, by omega, q3, fun j hj => ?_⟩
    have hf : (flatI xs)[j]? = some (.int .i64 (xs.getD j 0)) := by simp [flatI, List.getD_eq_getElem?_getD, List.getElem?_eq_getElem hj]
    rw [← q7, List.getElem?_take_of_lt (by omega)] at hf
    simpa using hf

def zCurve : Array Value := #[.slice none 0 0, .slice none 0 0]
/-- b2, b5: the rows are cloned; b6: the pair is built; b7: the box is made; b8: it is filled. -/
def Clo (B : Nat) (xs ys : List Int) (b2 b5 b6 b7 b8 : Bool) (x y a s : Value) (W : World) : Prop :=
  (b2 = true → CloX B xs x W) ∧ (b5 = true → CloX B ys y W) ∧ (b2 = true → b5 = true → x.ownBlock ≠ y.ownBlock) ∧ (b6 = true → b2 = true ∧ b5 = true ∧ a = .agg #[x, y]) ∧ (b8 = true → b7 = true ∧ b6 = true) ∧
  (b7 = true → ∃ r, s = .pointer (some ⟨r, 0, none⟩) ∧ B ≤ r ∧ W.heap[r]? = some (.cells (if b8 = true then #[x, y] else zCurve) 24 (0, 0)))
section
variable {B : Nat} {xs ys : List Int} {b2 b5 b6 b7 b8 : Bool} {x y a s : Value} {W w2 : World}
theorem Clo.new : Clo B xs ys false false false false false x y a s W := ⟨by simp, by simp, by simp, by simp, by simp, by simp⟩
theorem Clo.step (h : Clo B xs ys b2 b5 b6 b7 b8 x y a s W) (hb : Below W.heap.size W w2) : Clo B xs ys b2 b5 b6 b7 b8 x y a s w2 := by
  obtain ⟨h1, h2, h3, h4, h5, h6⟩ := h
  refine ⟨fun e => (h1 e).step hb, fun e => (h2 e).step hb, h3, h4, h5, fun e => ?_⟩
  obtain ⟨r, q1, q2, q3⟩ := h6 e
  exact ⟨r, q1, q2, blk_step q3 hb⟩
theorem Clo.gx (h : Clo B xs ys true b5 b6 b7 b8 x y a s W) : CloX B xs x W := h.1 rfl
theorem Clo.gy (h : Clo B xs ys b2 true b6 b7 b8 x y a s W) : CloX B ys y W := h.2.1 rfl
theorem Clo.agg (h : Clo B xs ys b2 b5 true b7 b8 x y a s W) : a = .agg #[x, y] := (h.2.2.2.1 rfl).2.2
theorem Clo.box (h : Clo B xs ys b2 b5 b6 true b8 x y a s W) : ∃ r, s = .pointer (some ⟨r, 0, none⟩) ∧ B ≤ r ∧ W.heap[r]? = some (.cells (if b8 = true then #[x, y] else zCurve) 24 (0, 0)) := h.2.2.2.2.2 rfl
theorem Clo.mkX {x2 : Value} (h : Clo B xs ys false b5 b6 b7 b8 x y a s W) (hn : xs ≠ []) (hB : B ≤ W.heap.size) (hb : Below W.heap.size W w2) (ho : IntOwn w2 W.heap.size x2 xs) : Clo B xs ys true b5 b6 b7 b8 x2 y a s w2 := by
  obtain ⟨h1, h2, h3, h4, h5, h6⟩ := h
  have e6 : b6 = false := by cases b6; rfl; exact absurd (h4 rfl).1 (by decide)
  have e8 : b8 = false := by cases b8; rfl; exact absurd ((h5 rfl).2.symm.trans e6) (by decide)
  subst e6 e8
  refine ⟨fun _ => ho.clo hn hB, fun e => (h2 e).step hb, fun _ e c => ?_, by simp, by simp, fun e => ?_⟩
  · obtain ⟨g, c', cur, q1, q2, q3, q4⟩ := h2 e
    obtain ⟨g2, c2, cur2, r1, r2, r3, r4⟩ := ho.clo hn (Nat.le_refl _)
    have := blk_lt q3
    rw [q1, r1] at c
    simp [Value.ownBlock] at c
    omega
  · obtain ⟨r, q1, q2, q3⟩ := h6 e
    exact ⟨r, q1, q2, blk_step q3 hb⟩
theorem Clo.mkY {y2 : Value} (h : Clo B xs ys b2 false b6 b7 b8 x y a s W) (hn : ys ≠ []) (hB : B ≤ W.heap.size) (hb : Below W.heap.size W w2) (ho : IntOwn w2 W.heap.size y2 ys) : Clo B xs ys b2 true b6 b7 b8 x y2 a s w2 := by
  obtain ⟨h1, h2, h3, h4, h5, h6⟩ := h
  have e6 : b6 = false := by cases b6; rfl; exact absurd (h4 rfl).2.1 (by decide)
  have e8 : b8 = false := by cases b8; rfl; exact absurd ((h5 rfl).2.symm.trans e6) (by decide)
  subst e6 e8
  refine ⟨fun e => (h1 e).step hb, fun _ => ho.clo hn hB, fun e _ c => ?_, by simp, by simp, fun e => ?_⟩
  · obtain ⟨g, c', cur, q1, q2, q3, q4⟩ := h1 e
    obtain ⟨g2, c2, cur2, r1, r2, r3, r4⟩ := ho.clo hn (Nat.le_refl _)
    have := blk_lt q3
    rw [q1, r1] at c
    simp [Value.ownBlock] at c
    omega
  · obtain ⟨r, q1, q2, q3⟩ := h6 e
    exact ⟨r, q1, q2, blk_step q3 hb⟩
theorem Clo.mkA (h : Clo B xs ys true true b6 b7 b8 x y a s W) : Clo B xs ys true true true b7 b8 x y (.agg #[x, y]) s W := by
  obtain ⟨h1, h2, h3, h4, h5, h6⟩ := h
  exact ⟨h1, h2, h3, fun _ => ⟨rfl, rfl, rfl⟩, fun e => ⟨(h5 e).1, rfl⟩, h6⟩
theorem Clo.mkS (h : Clo B xs ys b2 b5 b6 false b8 x y a s W) (hB : B ≤ W.heap.size) : Clo B xs ys b2 b5 b6 true b8 x y a (.pointer (some ⟨W.heap.size, 0, none⟩)) (W.alloc (.cells zCurve 24)) := by
  have hb : Below W.heap.size W (W.alloc (.cells zCurve 24)) := (Below.refl _ _).alloc (Nat.le_refl _) _
  obtain ⟨h1, h2, h3, h4, h5, h6⟩ := h
  have e8 : b8 = false := by cases b8; rfl; exact absurd (h5 rfl).1 (by decide)
  subst e8
  exact ⟨fun e => (h1 e).step hb, fun e => (h2 e).step hb, h3, h4, by simp, fun _ => ⟨_, rfl, hB, by simpa using blk_new W (.cells zCurve 24)⟩⟩
theorem CloX.setFar {r o : Nat} {v : Value} {cs : Array Value} (h : CloX B xs x W) (hr : W.heap[r]? = some (.cells cs 24 (0, 0))) : CloX B xs x (W.setCell ⟨r, o, none⟩ v) := by
  obtain ⟨g, c, cur, h1, h2, h3, h4⟩ := h
  refine ⟨g, c, cur, h1, h2, blk_set_other h3 (fun e => ?_), h4⟩
  rw [e, hr] at h3
  simp only [Option.some.injEq, Obj.cells.injEq] at h3
  exact absurd h3.2.1 (by decide)
theorem Clo.mkSt {r : Nat} (h : Clo B xs ys true true true true false x y a (.pointer (some ⟨r, 0, none⟩)) W) : Clo B xs ys true true true true true x y a (.pointer (some ⟨r, 0, none⟩)) ((W.setCell ⟨r, 0, none⟩ x).setCell ⟨r, 1, none⟩ y) := by
  obtain ⟨h1, h2, h3, h4, h5, h6⟩ := h
  obtain ⟨r', q1, q2, q3⟩ := h6 rfl
  simp only [Value.pointer.injEq, Option.some.injEq, Addr.mk.injEq, and_true] at q1
  subst q1
  refine ⟨fun e => ((h1 e).setFar q3).setFar (blk_set q3), fun e => ((h2 e).setFar q3).setFar (blk_set q3), h3, h4, by simp, fun _ => ⟨_, rfl, q2, ?_⟩⟩
  have := blk_set (o := 1) (v := y) (blk_set (o := 0) (v := x) q3)
  simpa [zCurve] using this
theorem CloX.blk (h : CloX B xs x W) : ∃ g c, x = .slice (some ⟨g, 0, none⟩) xs.length c ∧ B ≤ g ∧ IntBlk W g xs := by
  obtain ⟨g, c, cur, h1, h2, h3, h4⟩ := h
  exact ⟨g, c, h1, h2, cur, _, h3, h4⟩
/-- Two rows in new memory, and a box that holds them. -/
def CuBox (B : Nat) (r gx cx gy cy : Nat) (xs ys : List Int) (W : World) : Prop :=
  W.cell? ⟨r, 0, none⟩ = some (.slice (some ⟨gx, 0, none⟩) xs.length cx) ∧ W.cell? ⟨r, 1, none⟩ = some (.slice (some ⟨gy, 0, none⟩) ys.length cy) ∧ IntBlk W gx xs ∧ IntBlk W gy ys ∧ gx ≠ gy ∧ r ≠ gx ∧ r ≠ gy ∧ B ≤ gx ∧ B ≤ gy ∧ B ≤ r
theorem Clo.fin (h : Clo B xs ys true true true true true x y a s W) : ∃ r gx cx gy cy, s = .pointer (some ⟨r, 0, none⟩) ∧ CuBox B r gx cx gy cy xs ys W := by
  obtain ⟨h1, h2, h3, h4, h5, h6⟩ := h
  obtain ⟨r, q1, q2, q3⟩ := h6 rfl
  obtain ⟨gx, cx, cur, x1, x2, x3, x4⟩ := h1 rfl
  obtain ⟨gy, cy, cur2, y1, y2, y3, y4⟩ := h2 rfl
  have hne := h3 rfl rfl
  rw [if_pos rfl] at q3
  refine ⟨r, gx, cx, gy, cy, q1, blk_cell q3 (by rw [x1]; rfl), blk_cell q3 (by rw [y1]; rfl), ⟨cur, _, x3, x4⟩, ⟨cur2, _, y3, y4⟩, ?_, ?_, ?_, x2, y2, q2⟩
  · intro e
    rw [x1, y1, e] at hne
    exact hne rfl
  · intro e
    rw [e, x3] at q3
    simp only [Option.some.injEq, Obj.cells.injEq] at q3
    exact absurd q3.2.1 (by decide)
  · intro e
    rw [e, y3] at q3
    simp only [Option.some.injEq, Obj.cells.injEq] at q3
    exact absurd q3.2.1 (by decide)
end

/-- Cs, and the block p, which may be written. -/
def Kf (w : World) (B : Nat) (l : List (Nat × Nat × Value)) (p : Nat) (W : World) : Prop := Cs w B l W ∧ p < B ∧ ∃ cur T, W.heap[p]? = some (.cells cur T (0, 0))
section
variable {w W w2 : World} {B p : Nat} {l : List (Nat × Nat × Value)}
theorem Kf.at_ {q o : Nat} {v : Value} (h : Kf w B l p W) (hm : (q, o, v) ∈ l) : W.cell? ⟨q, o, none⟩ = some v := h.1.at_ hm
theorem Kf.bel (h : Kf w B l p W) : Below w.heap.size w W := h.1.bel
theorem Kf.step (h : Kf w B l p W) (hb : Below W.heap.size W w2) : Kf w B l p w2 := by
  obtain ⟨h1, h2, cur, T, h3⟩ := h
  exact ⟨h1.step hb, h2, cur, T, blk_step h3 hb⟩
theorem Kf.alloc {o : Obj} (h : Kf w B l p W) : Kf w B l p (W.alloc o) := h.step ((Below.refl _ _).alloc (Nat.le_refl _) _)
theorem Kf.drew (h : Kf w B l p W) : Kf w B l p W.drew := h.step (Below.refl _ _).drew
theorem Kf.drewN {n : Nat} (h : Kf w B l p W) : Kf w B l p (W.drewN n) := h.step (bDrewN (Below.refl _ _))
theorem Kf.set {r o : Nat} {v : Value} (h : Kf w B l p W) (hr : B ≤ r) : Kf w B l p (W.setCell ⟨r, o, none⟩ v) := by
  obtain ⟨h1, h2, cur, T, h3⟩ := h
  exact ⟨h1.set hr, h2, cur, T, blk_set_other h3 (show p ≠ r by omega)⟩
theorem Kf.free {o : Nat} (h : Kf w B l p W) : W.frozen? ⟨p, o, none⟩ = false := by
  obtain ⟨h1, h2, cur, T, h3⟩ := h
  exact blk_free h3
end

end Go.Proofs.Ytkldlmbccdfjdaa

/-
  The walk of Move.
-/
set_option linter.unusedSimpArgs false
set_option linter.unusedVariables false
namespace Go.Proofs.Ytkldlmbccdfjdaa
open Go.RowKit

def moveOk (xs ys : List Int) (dx dy : Int) (n : Nat) : Prop := ∀ k, k < n → isQ (xs.getD k 0 + dx) = true ∧ isQ (ys.getD k 0 + dy) = true
instance (xs ys : List Int) (dx dy : Int) (n : Nat) : Decidable (moveOk xs ys dx dy n) := by unfold moveOk; infer_instance
/-- What Move returns. -/
def moveS (xs ys : List Int) (dx dy : Int) : (List Int × List Int) × Int :=
  if checkC xs ys ≠ 0 then (([], []), checkC xs ys) else if ¬ (isQ dx = true ∧ isQ dy = true) then (([], []), 2)
  else if moveOk xs ys dx dy xs.length then ((xs.map (· + dx), ys.map (· + dy)), 0) else (([], []), 4)
/-- A curve that has been made: in new memory, its two rows apart. -/
def CuOut (B : Nat) (v u : Value) (xs ys : List Int) (W : World) : Prop :=
  (v = .slice none 0 0 ∧ u = .slice none 0 0 ∧ xs = [] ∧ ys = []) ∨
  ∃ gx cx gy cy, v = .slice (some ⟨gx, 0, none⟩) xs.length cx ∧ u = .slice (some ⟨gy, 0, none⟩) ys.length cy ∧ B ≤ gx ∧ B ≤ gy ∧ gx ≠ gy ∧ IntBlk W gx xs ∧ IntBlk W gy ys
theorem CuOut.nil {B : Nat} {W : World} : CuOut B (.slice none 0 0) (.slice none 0 0) [] [] W := Or.inl ⟨rfl, rfl, rfl, rfl⟩
theorem checkC_vals (xs ys : List Int) : checkC xs ys = 0 ∨ checkC xs ys = 2 ∨ checkC xs ys = 6 := by
  unfold checkC
  split
  · exact Or.inr (Or.inr rfl)
  · split
    · exact Or.inl rfl
    · exact Or.inr (Or.inl rfl)
theorem checkC_good {xs ys : List Int} (h : checkC xs ys = 0) : goodC xs ys ∧ xs.length ≤ 64 := by
  unfold checkC at h
  split at h
  · exact absurd h (by decide)
  · split at h
    · rename_i h1 h2; exact ⟨h2, by omega⟩
    · exact absurd h (by decide)

/-- The rows of a curve that is being moved: the first k numbers have been moved. -/
def mvRow (xs zs : List Int) (dx : Int) (k : Nat) : Prop := zs.length = xs.length ∧ ∀ j, zs.getD j 0 = if j < k ∧ j < xs.length then xs.getD j 0 + dx else xs.getD j 0
theorem mvRow.zero {xs : List Int} {dx : Int} : mvRow xs xs dx 0 := ⟨rfl, fun j => by simp⟩
theorem mvRow.at_ {xs zs : List Int} {dx : Int} {k : Nat} (h : mvRow xs zs dx k) : zs.getD k 0 = xs.getD k 0 := by rw [h.2 k, if_neg (by omega)]
theorem mvRow.next {xs zs : List Int} {dx : Int} {k : Nat} (h : mvRow xs zs dx k) (hk : k < xs.length) : mvRow xs (zs.set k (xs.getD k 0 + dx)) dx (k + 1) := by
  refine ⟨by rw [List.length_set]; exact h.1, fun j => ?_⟩
  rw [getDI_set (by rw [h.1]; exact hk), h.2 j]
  by_cases e : k = j
  · subst e
    rw [if_pos rfl, if_pos ⟨by omega, hk⟩]
  · rw [if_neg e]
    by_cases e2 : j < k ∧ j < xs.length
    · rw [if_pos e2, if_pos ⟨by omega, e2.2⟩]
    · rw [if_neg e2, if_neg (by omega)]
theorem mvRow.all {xs zs : List Int} {dx : Int} {k : Nat} (h : mvRow xs zs dx k) (hk : xs.length ≤ k) : zs = xs.map (· + dx) := by
  refine ints_eq (by rw [h.1]; simp) fun j hj => ?_
  rw [h.2 j, if_pos ⟨by have := h.1; omega, by have := h.1; omega⟩]
  have hj' : j < xs.length := by have := h.1; omega
  simp [List.getD_eq_getElem?_getD, List.getElem?_eq_getElem hj']
theorem CuBox.step {B r gx cx gy cy : Nat} {xs ys : List Int} {W w2 : World} (h : CuBox B r gx cx gy cy xs ys W) (hb : Below W.heap.size W w2) : CuBox B r gx cx gy cy xs ys w2 := by
  obtain ⟨h1, h2, h3, h4, h5⟩ := h
  exact ⟨cell_step h1 hb, cell_step h2 hb, h3.step hb, h4.step hb, h5⟩
theorem CuBox.setX {B r gx cx gy cy k : Nat} {v : Int} {xs ys : List Int} {W : World} (h : CuBox B r gx cx gy cy xs ys W) (hk : k < xs.length) : CuBox B r gx cx gy cy (xs.set k v) ys (W.setCell ⟨gx, k, none⟩ (.int .i64 v)) := by
  obtain ⟨h1, h2, h3, h4, h5, h6, h7, h8⟩ := h
  exact ⟨by rw [List.length_set]; exact cell_set_far h1 h6, cell_set_far h2 h6, h3.set hk, h4.far (Ne.symm h5), h5, h6, h7, h8⟩
theorem CuBox.setY {B r gx cx gy cy k : Nat} {v : Int} {xs ys : List Int} {W : World} (h : CuBox B r gx cx gy cy xs ys W) (hk : k < ys.length) : CuBox B r gx cx gy cy xs (ys.set k v) (W.setCell ⟨gy, k, none⟩ (.int .i64 v)) := by
  obtain ⟨h1, h2, h3, h4, h5, h6, h7, h8⟩ := h
  exact ⟨cell_set_far h1 h7, by rw [List.length_set]; exact cell_set_far h2 h7, h3.far h5, h4.set hk, h5, h6, h7, h8⟩
theorem CuBox.out {B r gx cx gy cy : Nat} {xs ys : List Int} {W : World} {B2 : Nat} (h : CuBox B r gx cx gy cy xs ys W) (hB : B2 ≤ B) : CuOut B2 (.slice (some ⟨gx, 0, none⟩) xs.length cx) (.slice (some ⟨gy, 0, none⟩) ys.length cy) xs ys W := by
  obtain ⟨h1, h2, h3, h4, h5, h6, h7, h8, h9, h10⟩ := h
  exact Or.inr ⟨gx, cx, gy, cy, rfl, rfl, by omega, by omega, h5, h3, h4⟩

set_option maxHeartbeats 4000000 in
set_option maxRecDepth 20000 in
theorem Move_any (a b : Option Addr) (ca cb : Nat) (xs ys : List Int) (dx dy : Int) (w : World) (hx : xs.length ≤ 1000000) (hy : ys.length ≤ 1000000) (hA : IntAt a xs w) (hB : IntAt b ys w) :
    Calls Try.prog 7 #[.agg #[.slice a xs.length ca, .slice b ys.length cb], .int .i64 dx, .int .i64 dy] w fun e w' => ∃ v u, e = .returned (.tuple #[.agg #[v, u], .int .i64 (moveS xs ys dx dy).2]) ∧ CuOut w.heap.size v u (moveS xs ys dx dy).1.1 (moveS xs ys dx dy).1.2 w' ∧ Below w.heap.size w w' := by
  have C := Lib.hid (fun w h1 h2 => CheckCurve_any a b ca cb xs ys w hx hy h1 h2)
  have HA := Lib.hid hA
  have HB := Lib.hid hB
  clear hA hB
  by_cases h1 : checkC xs ys = 0
  · by_cases h2 : isQ dx = true ∧ isQ dy = true
    · obtain ⟨⟨hpre, hris⟩, h64⟩ := checkC_good h1
      rw [h1] at C
      obtain ⟨h3, h4⟩ := h2
      obtain ⟨p1, p2, p3, p4⟩ := hpre
      have hm : moveS xs ys dx dy = if moveOk xs ys dx dy xs.length then ((xs.map (· + dx), ys.map (· + dy)), 0) else (([], []), 4) := by
        unfold moveS; rw [if_neg (by simp [h1]), if_neg (fun h => h ⟨h3, h4⟩)]
      have HM := Lib.hid hm
      have HL := Lib.hid p1
      have K1 := Lib.hid (fun w h => CloneI_row a ca xs w hx h)
      have K2 := Lib.hid (fun w h => CloneI_row b cb ys w hy h)
      have hne : xs ≠ [] := fun e => by rw [e] at p2; simp at p2
      have hne2 : ys ≠ [] := fun e => by rw [e] at p1; rw [p1] at p2; simp at p2
      have HQ := Lib.hid (show (∀ k, -1099511627776 ≤ xs.getD k 0 ∧ xs.getD k 0 ≤ 1099511627776) ∧ (∀ k, -1099511627776 ≤ ys.getD k 0 ∧ ys.getD k 0 ≤ 1099511627776) from ⟨allQ_getD p3, allQ_getD p4⟩)
      have bx := (isQ_iff _).1 h3
      have by_ := (isQ_iff _).1 h4
      rw [← p1] at C K2 ⊢
      obtain ⟨bu, ou, rfl, -⟩ := id (HA.out hne)
      obtain ⟨bv, ov, rfl, -⟩ := id (HB.out hne2)
      generalize moveS xs ys dx dy = R at *
      clear hm h1 p1 p3 p4 hris
      go_enter Try.func7, Try.ntmps7
      go_upto_region 6 with (first | (go_at_call 12; refine (C.out _ (HA.out.step (by repeat' (first | exact Below.refl _ _ | assumption | apply bDrewN | apply bDrew | apply bAlloc | (refine bSet ?_ ?_ _) | (refine bStep ?_ (by assumption)) | omega | (simp <;> omega)))) (HB.out.step (by repeat' (first | exact Below.refl _ _ | assumption | apply bDrewN | apply bDrew | apply bAlloc | (refine bSet ?_ ?_ _) | (refine bStep ?_ (by assumption)) | omega | (simp <;> omega))))).mono ?_; rintro e w1 ⟨rfl, hb1⟩; obtain ⟨hcw1, hfw1⟩ := bcell hb1; have hzw1 := Below.size hb1; (try simp at hzw1); have hzw10 : w.heap.size < w1.heap.size := (by omega); have hzw11 : w.heap.size + 1 < w1.heap.size := (by omega)) | (go_at_call 39; refine (is_any _ _).mono ?_; rintro e w' ⟨rfl, rfl⟩))
      have hbw : Below w.heap.size w w1 := (by repeat' (first | exact Below.refl _ _ | assumption | apply bDrewN | apply bDrew | apply bAlloc | (refine bSet ?_ ?_ _) | (refine bStep ?_ (by assumption)) | omega | (simp <;> omega)))
      have HS := Lib.hid (show Kf w (w.heap.size + 2) [(w.heap.size, 0, (.slice (some ⟨bu, ou, none⟩) xs.length ca)), (w.heap.size, 1, (.slice (some ⟨bv, ov, none⟩) xs.length cb)), (w.heap.size + 1, 0, (.slice none 0 0)), (w.heap.size + 1, 1, (.slice none 0 0))] (w.heap.size + 1) w1 from ⟨((((Cs.nil (by omega) hbw).cons (by go_simp) (by omega)).cons (by go_simp) (by omega)).cons (by go_simp) (by omega)).cons (by go_simp) (by omega), by omega, _, _, by simpa using blk_step (blk_new (w.alloc _) _) hb1⟩)
      clear hcw1 hfw1 hb1 C
      go_cut [9] (fun s9 W => ∃ r gx cx gy cy : Nat, s9 = .pointer (some ⟨r, 0, none⟩) ∧ CuBox (w.heap.size + 2) r gx cx gy cy xs ys W ∧ Kf w (w.heap.size + 2) [(w.heap.size, 0, (.slice (some ⟨bu, ou, none⟩) xs.length ca)), (w.heap.size, 1, (.slice (some ⟨bv, ov, none⟩) xs.length cb)), (w.heap.size + 1, 0, (.slice none 0 0)), (w.heap.size + 1, 1, (.slice none 0 0))] (w.heap.size + 1) W)
      case first =>
        generalize hA0 : (Act.mk _ _) = A0
        refine region_inv (by kernel_rfl) (by kernel_rfl) (fun l a W => ∃ (b0 b1 b2 b3 b4 b5 b6 b7 b8 : Bool) (v26 v27 v28 v29 v30 v31 v32 v9 : Value), l = #[b0, b1, b2, b3, b4, b5, b6, b7, b8] ∧ a = updAll A0 [(26, v26), (27, v27), (28, v28), (29, v29), (30, v30), (31, v31), (32, v32), (9, v9)] ∧ (b0 = true → v26 = (.pointer (some ⟨w.heap.size, 0, none⟩))) ∧ (b1 = true → v27 = (.slice (some ⟨bu, ou, none⟩) xs.length ca)) ∧ (b3 = true → v29 = (.pointer (some ⟨w.heap.size, 1, none⟩))) ∧ (b4 = true → v30 = (.slice (some ⟨bv, ov, none⟩) xs.length cb)) ∧ Kf w (w.heap.size + 2) [(w.heap.size, 0, (.slice (some ⟨bu, ou, none⟩) xs.length ca)), (w.heap.size, 1, (.slice (some ⟨bv, ov, none⟩) xs.length cb)), (w.heap.size + 1, 0, (.slice none 0 0)), (w.heap.size + 1, 1, (.slice none 0 0))] (w.heap.size + 1) W ∧ w.heap.size + 2 ≤ W.heap.size ∧ Clo (w.heap.size + 2) xs ys b2 b5 b6 b7 b8 v28 v31 v32 v9 W) ?h0 ?hsz ?step ?done
        case h0 =>
          refine ⟨false, false, false, false, false, false, false, false, false, A0.tmps.getD 26 undef, A0.tmps.getD 27 undef, A0.tmps.getD 28 undef, A0.tmps.getD 29 undef, A0.tmps.getD 30 undef, A0.tmps.getD 31 undef, A0.tmps.getD 32 undef, A0.tmps.getD 9 undef, by rfl, ?_, by simp, by simp, by simp, by simp, (HS.out).drew, (by first | omega | (simp; omega) | simp), Clo.new⟩
          rw [← hA0]
          simp [updAll, Act.put]
        case hsz =>
          rintro l a W ⟨b0, b1, b2, b3, b4, b5, b6, b7, b8, v26, v27, v28, v29, v30, v31, v32, v9, rfl, -⟩
          rfl
        case step =>
          intro iop oop hopi lst act W hInv hlst hdep
          obtain ⟨b0, b1, b2, b3, b4, b5, b6, b7, b8, v26, v27, v28, v29, v30, v31, v32, v9, rfl, rfl, f0, f1, f3, f4, hM, hz, hC⟩ := hInv
          have hi8 : iop < 9 := (Array.getElem?_eq_some_iff.1 hopi).1
          have hi9 : iop = 0 ∨ iop = 1 ∨ iop = 2 ∨ iop = 3 ∨ iop = 4 ∨ iop = 5 ∨ iop = 6 ∨ iop = 7 ∨ iop = 8 := by omega
          rcases hi9 with rfl | rfl | rfl | rfl | rfl | rfl | rfl | rfl | rfl
          · obtain rfl : b0 = false := by simpa using hlst
            obtain rfl := Option.some.inj (show some _ = some oop from hopi)
            refine step_to (a' := (updAll A0 [(26, v26), (27, v27), (28, v28), (29, v29), (30, v30), (31, v31), (32, v32), (9, v9)]).put (some 26) ((.pointer (some ⟨w.heap.size, 0, none⟩)))) (w' := W) ?_ ?_
            · intro K' hK'
              subst hA0
              have c0 := hM.at_ (show (w.heap.size, 0, (.slice (some ⟨bu, ou, none⟩) xs.length ca)) ∈ _ from by simp); have c1 := hM.at_ (show (w.heap.size, 1, (.slice (some ⟨bv, ov, none⟩) xs.length cb)) ∈ _ from by simp); have c2 := hM.at_ (show (w.heap.size + 1, 0, (.slice none 0 0)) ∈ _ from by simp); have c3 := hM.at_ (show (w.heap.size + 1, 1, (.slice none 0 0)) ∈ _ from by simp)
              refine wpOp_plain rfl rfl ?_
              simp only [updAll, Act.put, List.setIfInBounds_toArray, List.set_cons_zero, List.set_cons_succ] at hK' ⊢
              go_wp2
              exact hK'
            · refine ⟨true, b1, b2, b3, b4, b5, b6, b7, b8, _, v27, v28, v29, v30, v31, v32, v9, by rfl, ?_, fun _ => rfl, f1, f3, f4, hM, hz, hC⟩
              rw [← hA0]
              simp [updAll, Act.put]
          · obtain rfl : b1 = false := by simpa using hlst
            obtain rfl := Option.some.inj (show some _ = some oop from hopi)
            obtain rfl : b0 = true := by
              rcases Bool.eq_false_or_eq_true b0 with hbb | hbb
              · exact hbb
              · exfalso; subst hbb; revert hdep; simp [Region.binds]
            have e0 := f0 rfl
            subst e0
            refine step_to (a' := (updAll A0 [(26, (.pointer (some ⟨w.heap.size, 0, none⟩))), (27, v27), (28, v28), (29, v29), (30, v30), (31, v31), (32, v32), (9, v9)]).put (some 27) ((.slice (some ⟨bu, ou, none⟩) xs.length ca))) (w' := W) ?_ ?_
            · intro K' hK'
              subst hA0
              have c0 := hM.at_ (show (w.heap.size, 0, (.slice (some ⟨bu, ou, none⟩) xs.length ca)) ∈ _ from by simp); have c1 := hM.at_ (show (w.heap.size, 1, (.slice (some ⟨bv, ov, none⟩) xs.length cb)) ∈ _ from by simp); have c2 := hM.at_ (show (w.heap.size + 1, 0, (.slice none 0 0)) ∈ _ from by simp); have c3 := hM.at_ (show (w.heap.size + 1, 1, (.slice none 0 0)) ∈ _ from by simp)
              refine wpOp_plain rfl rfl ?_
              simp only [updAll, Act.put, List.setIfInBounds_toArray, List.set_cons_zero, List.set_cons_succ] at hK' ⊢
              go_wp2
              exact hK'
            · refine ⟨true, true, b2, b3, b4, b5, b6, b7, b8, (.pointer (some ⟨w.heap.size, 0, none⟩)), _, v28, v29, v30, v31, v32, v9, by rfl, ?_, fun _ => rfl, fun _ => rfl, f3, f4, hM, hz, hC⟩
              rw [← hA0]
              simp [updAll, Act.put]
          · obtain rfl : b2 = false := by simpa using hlst
            obtain rfl := Option.some.inj (show some _ = some oop from hopi)
            obtain rfl : b1 = true := by
              rcases Bool.eq_false_or_eq_true b1 with hbb | hbb
              · exact hbb
              · exfalso; subst hbb; revert hdep; simp [Region.binds]
            have e1 := f1 rfl
            subst e1
            refine step_ex (fun a' w' => ∃ x', a' = (updAll A0 [(26, v26), (27, (.slice (some ⟨bu, ou, none⟩) xs.length ca)), (28, v28), (29, v29), (30, v30), (31, v31), (32, v32), (9, v9)]).put (some 28) x' ∧ IntOwn w' W.heap.size x' xs ∧ Below W.heap.size W w') ?_ ?_
            · intro K' hK'
              subst hA0
              have c0 := hM.at_ (show (w.heap.size, 0, (.slice (some ⟨bu, ou, none⟩) xs.length ca)) ∈ _ from by simp); have c1 := hM.at_ (show (w.heap.size, 1, (.slice (some ⟨bv, ov, none⟩) xs.length cb)) ∈ _ from by simp); have c2 := hM.at_ (show (w.heap.size + 1, 0, (.slice none 0 0)) ∈ _ from by simp); have c3 := hM.at_ (show (w.heap.size + 1, 1, (.slice none 0 0)) ∈ _ from by simp)
              refine wpOp_plain rfl rfl ?_
              simp only [updAll, Act.put, List.setIfInBounds_toArray, List.set_cons_zero, List.set_cons_succ] at hK' ⊢
              go_wp2_with (go_at_call 40; refine (K1.out _ (HA.out.step (by first | exact hM.bel | exact bStep hM.bel (Below.refl _ _).drew))).mono ?_; rintro e w1 ⟨x', rfl, ox, hb1⟩)
              all_goals (first | exact ⟨_, rfl, ox, hb1⟩ | exact hK' _ _ ⟨_, rfl, ox, hb1⟩)
            · rintro a' w' ⟨x', rfl, ox, hb1⟩
              refine ⟨b0, true, true, b3, b4, b5, b6, b7, b8, v26, (.slice (some ⟨bu, ou, none⟩) xs.length ca), _, v29, v30, v31, v32, v9, by rfl, ?_, f0, fun _ => rfl, f3, f4, hM.step hb1, Nat.le_trans hz hb1.size, hC.mkX hne hz hb1 ox⟩
              rw [← hA0]
              simp [updAll, Act.put]
          · obtain rfl : b3 = false := by simpa using hlst
            obtain rfl := Option.some.inj (show some _ = some oop from hopi)
            refine step_to (a' := (updAll A0 [(26, v26), (27, v27), (28, v28), (29, v29), (30, v30), (31, v31), (32, v32), (9, v9)]).put (some 29) ((.pointer (some ⟨w.heap.size, 1, none⟩)))) (w' := W) ?_ ?_
            · intro K' hK'
              subst hA0
              have c0 := hM.at_ (show (w.heap.size, 0, (.slice (some ⟨bu, ou, none⟩) xs.length ca)) ∈ _ from by simp); have c1 := hM.at_ (show (w.heap.size, 1, (.slice (some ⟨bv, ov, none⟩) xs.length cb)) ∈ _ from by simp); have c2 := hM.at_ (show (w.heap.size + 1, 0, (.slice none 0 0)) ∈ _ from by simp); have c3 := hM.at_ (show (w.heap.size + 1, 1, (.slice none 0 0)) ∈ _ from by simp)
              refine wpOp_plain rfl rfl ?_
              simp only [updAll, Act.put, List.setIfInBounds_toArray, List.set_cons_zero, List.set_cons_succ] at hK' ⊢
              go_wp2
              exact hK'
            · refine ⟨b0, b1, b2, true, b4, b5, b6, b7, b8, v26, v27, v28, _, v30, v31, v32, v9, by rfl, ?_, f0, f1, fun _ => rfl, f4, hM, hz, hC⟩
              rw [← hA0]
              simp [updAll, Act.put]
          · obtain rfl : b4 = false := by simpa using hlst
            obtain rfl := Option.some.inj (show some _ = some oop from hopi)
            obtain rfl : b3 = true := by
              rcases Bool.eq_false_or_eq_true b3 with hbb | hbb
              · exact hbb
              · exfalso; subst hbb; revert hdep; simp [Region.binds]
            have e3 := f3 rfl
            subst e3
            refine step_to (a' := (updAll A0 [(26, v26), (27, v27), (28, v28), (29, (.pointer (some ⟨w.heap.size, 1, none⟩))), (30, v30), (31, v31), (32, v32), (9, v9)]).put (some 30) ((.slice (some ⟨bv, ov, none⟩) xs.length cb))) (w' := W) ?_ ?_
            · intro K' hK'
              subst hA0
              have c0 := hM.at_ (show (w.heap.size, 0, (.slice (some ⟨bu, ou, none⟩) xs.length ca)) ∈ _ from by simp); have c1 := hM.at_ (show (w.heap.size, 1, (.slice (some ⟨bv, ov, none⟩) xs.length cb)) ∈ _ from by simp); have c2 := hM.at_ (show (w.heap.size + 1, 0, (.slice none 0 0)) ∈ _ from by simp); have c3 := hM.at_ (show (w.heap.size + 1, 1, (.slice none 0 0)) ∈ _ from by simp)
              refine wpOp_plain rfl rfl ?_
              simp only [updAll, Act.put, List.setIfInBounds_toArray, List.set_cons_zero, List.set_cons_succ] at hK' ⊢
              go_wp2
              exact hK'
            · refine ⟨b0, b1, b2, true, true, b5, b6, b7, b8, v26, v27, v28, (.pointer (some ⟨w.heap.size, 1, none⟩)), _, v31, v32, v9, by rfl, ?_, f0, f1, fun _ => rfl, fun _ => rfl, hM, hz, hC⟩
              rw [← hA0]
              simp [updAll, Act.put]
          · obtain rfl : b5 = false := by simpa using hlst
            obtain rfl := Option.some.inj (show some _ = some oop from hopi)
            obtain rfl : b4 = true := by
              rcases Bool.eq_false_or_eq_true b4 with hbb | hbb
              · exact hbb
              · exfalso; subst hbb; revert hdep; simp [Region.binds]
            have e4 := f4 rfl
            subst e4
            refine step_ex (fun a' w' => ∃ x', a' = (updAll A0 [(26, v26), (27, v27), (28, v28), (29, v29), (30, (.slice (some ⟨bv, ov, none⟩) xs.length cb)), (31, v31), (32, v32), (9, v9)]).put (some 31) x' ∧ IntOwn w' W.heap.size x' ys ∧ Below W.heap.size W w') ?_ ?_
            · intro K' hK'
              subst hA0
              have c0 := hM.at_ (show (w.heap.size, 0, (.slice (some ⟨bu, ou, none⟩) xs.length ca)) ∈ _ from by simp); have c1 := hM.at_ (show (w.heap.size, 1, (.slice (some ⟨bv, ov, none⟩) xs.length cb)) ∈ _ from by simp); have c2 := hM.at_ (show (w.heap.size + 1, 0, (.slice none 0 0)) ∈ _ from by simp); have c3 := hM.at_ (show (w.heap.size + 1, 1, (.slice none 0 0)) ∈ _ from by simp)
              refine wpOp_plain rfl rfl ?_
              simp only [updAll, Act.put, List.setIfInBounds_toArray, List.set_cons_zero, List.set_cons_succ] at hK' ⊢
              go_wp2_with (go_at_call 40; refine (K2.out _ (HB.out.step (by first | exact hM.bel | exact bStep hM.bel (Below.refl _ _).drew))).mono ?_; rintro e w1 ⟨x', rfl, ox, hb1⟩)
              all_goals (first | exact ⟨_, rfl, ox, hb1⟩ | exact hK' _ _ ⟨_, rfl, ox, hb1⟩)
            · rintro a' w' ⟨x', rfl, ox, hb1⟩
              refine ⟨b0, b1, b2, b3, true, true, b6, b7, b8, v26, v27, v28, v29, (.slice (some ⟨bv, ov, none⟩) xs.length cb), _, v32, v9, by rfl, ?_, f0, f1, f3, fun _ => rfl, hM.step hb1, Nat.le_trans hz hb1.size, hC.mkY hne2 hz hb1 ox⟩
              rw [← hA0]
              simp [updAll, Act.put]
          · obtain rfl : b6 = false := by simpa using hlst
            obtain rfl := Option.some.inj (show some _ = some oop from hopi)
            obtain rfl : b2 = true := by
              rcases Bool.eq_false_or_eq_true b2 with hbb | hbb
              · exact hbb
              · exfalso; subst hbb; revert hdep; simp [Region.binds]
            obtain rfl : b5 = true := by
              rcases Bool.eq_false_or_eq_true b5 with hbb | hbb
              · exact hbb
              · exfalso; subst hbb; revert hdep; simp [Region.binds]
            refine step_to (a' := (updAll A0 [(26, v26), (27, v27), (28, v28), (29, v29), (30, v30), (31, v31), (32, v32), (9, v9)]).put (some 32) (.agg #[v28, v31])) (w' := W) ?_ ?_
            · intro K' hK'
              subst hA0
              obtain ⟨g1, c1, -, er1, -⟩ := hC.gx
              obtain ⟨g2, c2, -, er2, -⟩ := hC.gy
              subst er1 er2
              refine wpOp_plain rfl rfl ?_
              simp only [updAll, Act.put, List.setIfInBounds_toArray, List.set_cons_zero, List.set_cons_succ] at hK' ⊢
              go_wp2
              exact hK'
            · refine ⟨b0, b1, true, b3, b4, true, true, b7, b8, v26, v27, v28, v29, v30, v31, _, v9, by rfl, ?_, f0, f1, f3, f4, hM, hz, hC.mkA⟩
              rw [← hA0]
              simp [updAll, Act.put]
          · obtain rfl : b7 = false := by simpa using hlst
            obtain rfl := Option.some.inj (show some _ = some oop from hopi)
            refine step_to (a' := (updAll A0 [(26, v26), (27, v27), (28, v28), (29, v29), (30, v30), (31, v31), (32, v32), (9, v9)]).put (some 9) (.pointer (some ⟨W.heap.size, 0, none⟩))) (w' := W.alloc (.cells zCurve 24)) ?_ ?_
            · intro K' hK'
              subst hA0
              refine wpOp_plain rfl rfl ?_
              unfold zCurve at hK'
              simp only [updAll, Act.put, List.setIfInBounds_toArray, List.set_cons_zero, List.set_cons_succ] at hK' ⊢
              go_wp2
              exact hK'
            · refine ⟨b0, b1, b2, b3, b4, b5, b6, true, b8, v26, v27, v28, v29, v30, v31, v32, _, by rfl, ?_, f0, f1, f3, f4, hM.alloc, (by first | omega | (simp; omega) | simp), hC.mkS hz⟩
              rw [← hA0]
              simp [updAll, Act.put]
          · obtain rfl : b8 = false := by simpa using hlst
            obtain rfl := Option.some.inj (show some _ = some oop from hopi)
            obtain rfl : b7 = true := by
              rcases Bool.eq_false_or_eq_true b7 with hbb | hbb
              · exact hbb
              · exfalso; subst hbb; revert hdep; simp [Region.binds]
            obtain rfl : b6 = true := by
              rcases Bool.eq_false_or_eq_true b6 with hbb | hbb
              · exact hbb
              · exfalso; subst hbb; revert hdep; simp [Region.binds]
            obtain rfl : b2 = true := (hC.2.2.2.1 rfl).1
            obtain rfl : b5 = true := (hC.2.2.2.1 rfl).2.1
            have eA := hC.agg
            subst eA
            obtain ⟨r, er, hr2, hr3⟩ := hC.box
            subst er
            simp only [Bool.false_eq_true, if_false, zCurve] at hr3
            refine step_to (a' := updAll A0 [(26, v26), (27, v27), (28, v28), (29, v29), (30, v30), (31, v31), (32, .agg #[v28, v31]), (9, (.pointer (some ⟨r, 0, none⟩)))]) (w' := ((W.setCell ⟨r, 0, none⟩ v28).setCell ⟨r, 1, none⟩ v31)) ?_ ?_
            · intro K' hK'
              subst hA0
              obtain ⟨g1, c1, -, er1, -⟩ := hC.gx
              obtain ⟨g2, c2, -, er2, -⟩ := hC.gy
              subst er1 er2
              have q0 := blk_cell (o := 0) hr3 rfl
              have p0 := blk_free (o := 0) hr3
              have q1 := blk_cell (o := 1) hr3 rfl
              have p1 := blk_free (o := 1) hr3
              refine wpOp_plain rfl rfl ?_
              simp only [updAll, Act.put, List.setIfInBounds_toArray, List.set_cons_zero, List.set_cons_succ] at hK' ⊢
              go_wp2
              exact hK'
            · exact ⟨_, _, _, _, _, _, _, _, _, _, _, _, _, _, _, _, _, by rfl, rfl, f0, f1, f3, f4, (hM.set hr2).set hr2, by simpa using hz, hC.mkSt⟩
        case done =>
          rintro l a W ⟨b0, b1, b2, b3, b4, b5, b6, b7, b8, v26, v27, v28, v29, v30, v31, v32, v9, rfl, rfl, f0, f1, f3, f4, hM, hz, hC⟩ hall
          obtain rfl : b0 = true := by simpa using hall 0 (by decide)
          obtain rfl : b1 = true := by simpa using hall 1 (by decide)
          obtain rfl : b2 = true := by simpa using hall 2 (by decide)
          obtain rfl : b3 = true := by simpa using hall 3 (by decide)
          obtain rfl : b4 = true := by simpa using hall 4 (by decide)
          obtain rfl : b5 = true := by simpa using hall 5 (by decide)
          obtain rfl : b6 = true := by simpa using hall 6 (by decide)
          obtain rfl : b7 = true := by simpa using hall 7 (by decide)
          obtain rfl : b8 = true := by simpa using hall 8 (by decide)
          obtain ⟨r, gx, cx, gy, cy, er, hBox⟩ := hC.fin
          subst er
          subst hA0
          simp only [updAll, Act.put, List.setIfInBounds_toArray, List.set_cons_zero, List.set_cons_succ]
          go_wp2_with fail
          go_meet
          exact ⟨r, gx, cx, gy, cy, rfl, hBox, hM⟩
      case rest =>
        obtain ⟨r, gx, cx, gy, cy, rfl, hBox, hM⟩ := hcut
        clear HS hzw1
        have hlen : ∀ (zs ts : List Int), zs.length = xs.length → ts.length = ys.length → CuBox (w.heap.size + 2) r gx cx gy cy zs ts = CuBox (w.heap.size + 2) r gx cx gy cy zs ts := fun _ _ _ _ => rfl
        clear hlen
        obtain ⟨e1, e2, -, -, d1, d2, d3, d4, d5, d6⟩ := id hBox
        have c0 := hM.at_ (show (w.heap.size, 0, (.slice (some ⟨bu, ou, none⟩) xs.length ca)) ∈ _ from by simp); have c1 := hM.at_ (show (w.heap.size, 1, (.slice (some ⟨bv, ov, none⟩) xs.length cb)) ∈ _ from by simp); have c2 := hM.at_ (show (w.heap.size + 1, 0, (.slice none 0 0)) ∈ _ from by simp); have c3 := hM.at_ (show (w.heap.size + 1, 1, (.slice none 0 0)) ∈ _ from by simp)
        rw [← HL.out] at e2
        have HX := Lib.hid hBox
        have HKeep := Lib.hid hM
        clear hBox hM
        go_wp2_with fail
        go_loopw [36] (fun i wr => ∃ (k : Nat) (zs ts : List Int), k ≤ xs.length ∧ i = .int .i64 k ∧ mvRow xs zs dx k ∧ mvRow ys ts dy k ∧ CuBox (w.heap.size + 2) r gx cx gy cy zs ts wr ∧ Kf w (w.heap.size + 2) [(w.heap.size, 0, (.slice (some ⟨bu, ou, none⟩) xs.length ca)), (w.heap.size, 1, (.slice (some ⟨bv, ov, none⟩) xs.length cb)), (w.heap.size + 1, 0, (.slice none 0 0)), (w.heap.size + 1, 1, (.slice none 0 0))] (w.heap.size + 1) wr ∧ Hid (moveOk xs ys dx dy k)) (fun i _ => xs.length - (intOf i).toNat)
        case atStart => exact ⟨0, xs, ys, by omega, rfl, mvRow.zero, mvRow.zero, HX.out.step (by first | exact Below.refl _ _ | exact (Below.refl _ _).drew), HKeep.out.step (by first | exact Below.refl _ _ | exact (Below.refl _ _).drew), Lib.hid (fun k hk => absurd hk (by omega))⟩
        case round =>
          obtain ⟨k, zs, ts, hk, rfl, hz, ht, hBox, hM, HO⟩ := hrel
          clear HX HKeep c0 c1 c2 c3 e1 e2
          obtain ⟨e1, e2, f1, f2, -⟩ := id hBox
          rw [hz.1] at e1
          rw [ht.1, ← HL.out] at e2
          have c0 := hM.at_ (show (w.heap.size, 0, (.slice (some ⟨bu, ou, none⟩) xs.length ca)) ∈ _ from by simp); have c1 := hM.at_ (show (w.heap.size, 1, (.slice (some ⟨bv, ov, none⟩) xs.length cb)) ∈ _ from by simp); have c2 := hM.at_ (show (w.heap.size + 1, 0, (.slice none 0 0)) ∈ _ from by simp); have c3 := hM.at_ (show (w.heap.size + 1, 1, (.slice none 0 0)) ∈ _ from by simp)
          have HX := Lib.hid hBox
          have hbel := hM.bel
          have HK := Lib.hid hM
          have HZ := Lib.hid hz
          have HT := Lib.hid ht
          have hlz := hz.1
          have hlt_ : ts.length = ys.length := ht.1
          by_cases hlt : k < xs.length
          · obtain ⟨g1, g2⟩ := f1.cells (show k < zs.length by omega)
            obtain ⟨g3, g4⟩ := f2.cells (show k < ts.length by rw [hlt_, ← HL.out]; exact hlt)
            rw [hz.at_] at g1
            rw [ht.at_] at g3
            have q1 := HQ.out.1 k
            have q2 := HQ.out.2 k
            have HN := Lib.hid (show isQ (xs.getD k 0 + dx) = true → isQ (ys.getD k 0 + dy) = true → moveOk xs ys dx dy (k + 1) from fun a b j hj => by
              rcases Nat.lt_or_ge j k with h' | h'
              · exact HO.out j h'
              · obtain rfl : j = k := by omega
                exact ⟨a, b⟩)
            have HF := Lib.hid (show (isQ (xs.getD k 0 + dx) = false ∨ isQ (ys.getD k 0 + dy) = false) → R = (([], []), 4) from fun h => by
              rw [HM.out, if_neg]
              intro hh
              have := hh k hlt
              rcases h with h | h
              · exact absurd (h.symm.trans this.1) (by decide)
              · exact absurd (h.symm.trans this.2) (by decide))
            have HX2 := Lib.hid (show ∀ W, CuBox (w.heap.size + 2) r gx cx gy cy zs ts W → CuBox (w.heap.size + 2) r gx cx gy cy (zs.set k (xs.getD k 0 + dx)) (ts.set k (ys.getD k 0 + dy)) ((W.setCell ⟨gx, k, none⟩ (.int .i64 (xs.getD k 0 + dx))).setCell ⟨gy, k, none⟩ (.int .i64 (ys.getD k 0 + dy))) from fun W h => (h.setX (by omega)).setY (by rw [hlt_, ← HL.out]; exact hlt))
            have HZ2 := Lib.hid (hz.next hlt)
            have HT2 := Lib.hid (ht.next (show k < ys.length by rw [← HL.out]; exact hlt))
            clear hz ht HZ HT HQ hBox hM f1 f2 hlz hlt_ HO
            generalize xs.getD k 0 = x1 at *
            generalize ys.getD k 0 = y1 at *
            have a1 : IntKind.i64.wrap (x1 + dx) = x1 + dx := Go.IntWalk.i64_in _ ⟨by omega, by omega⟩
            have a2 : IntKind.i64.wrap (y1 + dy) = y1 + dy := Go.IntWalk.i64_in _ ⟨by omega, by omega⟩
            clear hne hne2
            by_cases b1 : isQ (x1 + dx) = true
            · by_cases b2 : isQ (y1 + dy) = true
              · have HN2 := Lib.hid (HN.out b1 b2)
                clear HN HF
                go_wp2_with (go_at_call 39; refine (is_any _ _).mono ?_; rintro e w' ⟨rfl, rfl⟩)
                go_roundw
                case rel => exact ⟨k + 1, _, _, by omega, by go_num, HZ2.out, HT2.out, HX2.out _ HX.out, (HK.out.set d4).set d5, HN2⟩
                case measure => (simp [intOf]; omega)
              · obtain b2 : isQ (y1 + dy) = false := by simpa using b2
                have hR := HF.out (Or.inr b2)
                subst hR
                have fr0 := HK.out.free (o := 0)
                have fr1 := HK.out.free (o := 1)
                have n1 : w.heap.size + 1 ≠ gx := by omega
                have n2 : w.heap.size + 1 ≠ gy := by omega
                clear HN HF
                go_wp2_with (go_at_call 39; refine (is_any _ _).mono ?_; rintro e w' ⟨rfl, rfl⟩)
                exact bodyPost_ret (v := .tuple #[.agg #[.slice none 0 0, .slice none 0 0], .int .i64 4]) (by simp only [results, Try.results7]; go_simp) rfl ⟨_, _, rfl, CuOut.nil, (by repeat' (first | exact Below.refl _ _ | assumption | apply bDrewN | apply bDrew | apply bAlloc | (refine bSet ?_ ?_ _) | (refine bStep ?_ (by assumption)) | omega | (simp <;> omega)))⟩
            · obtain b1 : isQ (x1 + dx) = false := by simpa using b1
              have hR := HF.out (Or.inl b1)
              subst hR
              have fr0 := HK.out.free (o := 0)
              have fr1 := HK.out.free (o := 1)
              have n1 : w.heap.size + 1 ≠ gx := by omega
              have n2 : w.heap.size + 1 ≠ gy := by omega
              clear HN HF
              go_wp2_with (go_at_call 39; refine (is_any _ _).mono ?_; rintro e w' ⟨rfl, rfl⟩)
              exact bodyPost_ret (v := .tuple #[.agg #[.slice none 0 0, .slice none 0 0], .int .i64 4]) (by simp only [results, Try.results7]; go_simp) rfl ⟨_, _, rfl, CuOut.nil, (by repeat' (first | exact Below.refl _ _ | assumption | apply bDrewN | apply bDrew | apply bAlloc | (refine bSet ?_ ?_ _) | (refine bStep ?_ (by assumption)) | omega | (simp <;> omega)))⟩
          · have hR : R = ((zs, ts), 0) := by
              rw [HM.out, if_pos (show moveOk xs ys dx dy xs.length from fun j hj => HO.out j (by omega)), hz.all (show xs.length ≤ k by omega), ht.all (show ys.length ≤ k by rw [← HL.out]; omega)]
            subst hR
            have fr0 := HK.out.free (o := 0)
            have fr1 := HK.out.free (o := 1)
            have n1 : gx ≠ w.heap.size + 1 := by omega
            have n2 : gy ≠ w.heap.size + 1 := by omega
            have hOut := Lib.hid (show ∀ a b, CuOut w.heap.size (.slice (some ⟨gx, 0, none⟩) xs.length cx) (.slice (some ⟨gy, 0, none⟩) xs.length cy) zs ts ((wr.setCell ⟨w.heap.size + 1, 0, none⟩ a).setCell ⟨w.heap.size + 1, 1, none⟩ b) from fun a b => by
              refine Or.inr ⟨gx, cx, gy, cy, by rw [hz.1], by rw [ht.1, HL.out], by omega, by omega, d1, (f1.far n1).far n1, (f2.far n2).far n2⟩)
            clear hne hne2 f1 f2 hz ht hlz hlt_ HZ HT HQ HO hBox hM
            go_wp2_with fail
            exact bodyPost_ret (v := .tuple #[.agg #[.slice (some ⟨gx, 0, none⟩) xs.length cx, .slice (some ⟨gy, 0, none⟩) xs.length cy], .int .i64 0]) (by simp only [results, Try.results7]; go_simp) rfl ⟨_, _, rfl, hOut.out _ _, (by repeat' (first | exact Below.refl _ _ | assumption | apply bDrewN | apply bDrew | apply bAlloc | (refine bSet ?_ ?_ _) | (refine bStep ?_ (by assumption)) | omega | (simp <;> omega)))⟩

    · have hm : moveS xs ys dx dy = (([], []), 2) := by unfold moveS; rw [if_neg (by simp [h1]), if_pos h2]
      rw [hm]
      rw [h1] at C
      have h3 : isQ dx = false ∨ (isQ dx = true ∧ isQ dy = false) := by
        cases h : isQ dx <;> cases h' : isQ dy <;> simp [h, h'] at h2 ⊢
      clear hm h1 h2 hx hy
      rcases h3 with h3 | ⟨h3, h4⟩
      all_goals
        go_enter Try.func7, Try.ntmps7
        go_wp2_with (first | (go_at_call 12; refine (C.out _ (HA.out.step (by repeat' (first | exact Below.refl _ _ | assumption | apply bDrewN | apply bDrew | apply bAlloc | (refine bSet ?_ ?_ _) | (refine bStep ?_ (by assumption)) | omega | (simp <;> omega)))) (HB.out.step (by repeat' (first | exact Below.refl _ _ | assumption | apply bDrewN | apply bDrew | apply bAlloc | (refine bSet ?_ ?_ _) | (refine bStep ?_ (by assumption)) | omega | (simp <;> omega))))).mono ?_; rintro e w1 ⟨rfl, hb1⟩; obtain ⟨hcw1, hfw1⟩ := bcell hb1; have hzw1 := Below.size hb1; (try simp at hzw1); have hzw10 : w.heap.size < w1.heap.size := (by omega); have hzw11 : w.heap.size + 1 < w1.heap.size := (by omega)) | (go_at_call 39; refine (is_any _ _).mono ?_; rintro e w' ⟨rfl, rfl⟩))
        exact bodyPost_ret (v := .tuple #[.agg #[.slice none 0 0, .slice none 0 0], .int .i64 2]) (by simp only [results, Try.results7]; go_simp) rfl ⟨_, _, rfl, CuOut.nil, (by repeat' (first | exact Below.refl _ _ | assumption | apply bDrewN | apply bDrew | apply bAlloc | (refine bSet ?_ ?_ _) | (refine bStep ?_ (by assumption)) | omega | (simp <;> omega)))⟩
  · have hm : moveS xs ys dx dy = (([], []), checkC xs ys) := if_pos h1
    rw [hm]
    generalize checkC xs ys = r at *
    clear hm hx hy
    go_enter Try.func7, Try.ntmps7
    go_wp2_with (go_at_call 12; refine (C.out _ (HA.out.step (by repeat' (first | exact Below.refl _ _ | assumption | apply bDrewN | apply bDrew | apply bAlloc | (refine bSet ?_ ?_ _) | (refine bStep ?_ (by assumption)) | omega | (simp <;> omega)))) (HB.out.step (by repeat' (first | exact Below.refl _ _ | assumption | apply bDrewN | apply bDrew | apply bAlloc | (refine bSet ?_ ?_ _) | (refine bStep ?_ (by assumption)) | omega | (simp <;> omega))))).mono ?_; rintro e w1 ⟨rfl, hb1⟩; obtain ⟨hcw1, hfw1⟩ := bcell hb1; have hzw1 := Below.size hb1; (try simp at hzw1); have hzw10 : w.heap.size < w1.heap.size := (by omega); have hzw11 : w.heap.size + 1 < w1.heap.size := (by omega))
    exact bodyPost_ret (v := .tuple #[.agg #[.slice none 0 0, .slice none 0 0], .int .i64 r]) (by simp only [results, Try.results7]; go_simp) rfl ⟨_, _, rfl, CuOut.nil, (by repeat' (first | exact Below.refl _ _ | assumption | apply bDrewN | apply bDrew | apply bAlloc | (refine bSet ?_ ?_ _) | (refine bStep ?_ (by assumption)) | omega | (simp <;> omega)))⟩

end Go.Proofs.Ytkldlmbccdfjdaa
