/-
  The walk of the law QuantityHalves.
-/
import Derived.Test.YtngnehlmbipabaaG13Backs
import Derived.Test.YtngnehlmbipabaaG16Backs
import Derived.Test.YtngnehlmbipabaaG11Backs
set_option linter.unusedSimpArgs false
set_option linter.unusedVariables false
namespace Go.Proofs.Ytngnehlmbipabaa
open Go.RowKit

def flatI (xs : List Int) : List Value := xs.map (Value.int .i64)
/-- The slice v owns the numbers xs, in a block from B on. -/
def IntOwn (W : World) (B : Nat) (v : Value) (xs : List Int) : Prop := W.ownsRow B 2 1 v xs.length (flatI xs)
theorem IntOwn.nil {W : World} {B : Nat} : IntOwn W B (.slice none 0 0) [] := ⟨rfl, Or.inl ⟨rfl, rfl⟩⟩
theorem own_step {W w2 : World} {B e s : Nat} {v : Value} {n : Nat} {xs : List Value} (h : W.ownsRow B e s v n xs) (hb : Below W.heap.size W w2) : w2.ownsRow B e s v n xs := by
  obtain ⟨h1, h2⟩ := h
  refine ⟨h1, ?_⟩
  rcases h2 with h2 | ⟨g, cap, cur, q1, q2, q3, q4⟩
  · exact Or.inl h2
  · exact Or.inr ⟨g, cap, cur, q1, q2, blk_step q3 hb, q4⟩
theorem IntOwn.step {W w2 : World} {B : Nat} {v : Value} {xs : List Int} (h : IntOwn W B v xs) (hb : Below W.heap.size W w2) : IntOwn w2 B v xs := own_step h hb
theorem IntOwn.row {W : World} {B : Nat} {v : Value} {xs : List Int} (h : IntOwn W B v xs) : IntRow v xs W := by
  obtain ⟨h1, h2⟩ := h
  rcases h2 with ⟨rfl, h2⟩ | ⟨g, cap, cur, rfl, q2, q3, q4, q5, q6, q7⟩
  · exact ⟨none, 0, by rw [h2], fun hn => absurd (List.length_eq_zero_iff.1 h2) hn⟩
  · refine ⟨_, _, rfl, fun _ => ⟨g, 0, rfl, blk_lt q3, fun j hj => ?_⟩⟩
    have hf : (flatI xs)[j]? = some (.int .i64 (xs.getD j 0)) := by simp [flatI, List.getD_eq_getElem?_getD, List.getElem?_eq_getElem hj]
    rw [← q7, List.getElem?_take_of_lt (by omega)] at hf
    exact blk_cell q3 (by simpa using hf)
theorem IntOwn.more {W : World} {B : Nat} {v : Value} {xs : List Int} {x : Int} (h : W.ownsRow B 2 1 v (xs.length + 1) (flatI xs ++ [.int .i64 x])) : IntOwn W B v (xs ++ [x]) := by
  unfold IntOwn flatI
  rw [List.map_append, List.length_append]
  exact h
theorem infoI : (Try.prog.info? 2).map (fun i => (i.zero, i.size, i.bytes)) = some (some (.int .i64 0), 1, 8) := by kernel_rfl
theorem one_cells (W : World) (x : Int) (T : TypeId) : ∀ j u, [Value.int .i64 x][j]? = some u → (W.alloc (.cells #[.int .i64 x] T)).cell? ((⟨W.heap.size, 0, none⟩ : Addr).add j) = some u := by
  intro j u hj
  match j, hj with
  | 0, hj => simp at hj; subst hj; simp [Addr.add]
theorem one_one (x : Int) : ∀ u ∈ [Value.int .i64 x], u.oneCell' = true := by
  intro u hu
  simp at hu
  rw [hu]; rfl
/-- A row of spans and a row of numbers never lie in one block. -/
theorem own_apart {W : World} {B : Nat} {v u : Value} {n m : Nat} {xs ys : List Value} (h : W.ownsRow B 40 2 v n xs) (g : W.ownsRow B 2 1 u m ys) : v.ownBlock = none ∨ v.ownBlock ≠ u.ownBlock := by
  rcases h.2 with ⟨rfl, _⟩ | ⟨b1, cap, cur, rfl, q2, q3, _⟩
  · exact Or.inl rfl
  · right
    rcases g.2 with ⟨rfl, _⟩ | ⟨b2, cap2, cur2, rfl, r2, r3, _⟩
    · intro e; cases e
    · intro e
      simp only [Value.ownBlock, Option.some.injEq] at e
      rw [e, r3] at q3
      simp only [Option.some.injEq, Obj.cells.injEq] at q3
      exact absurd q3.2.1 (by decide)
theorem own_apart' {W : World} {B : Nat} {v u : Value} {n m : Nat} {xs ys : List Value} (h : W.ownsRow B 40 2 v n xs) (g : W.ownsRow B 2 1 u m ys) : u.ownBlock = none ∨ u.ownBlock ≠ v.ownBlock := by
  rcases own_apart h g with e | e
  · cases hu : u.ownBlock with
    | none => exact Or.inl rfl
    | some b => exact Or.inr (by rw [e]; simp)
  · exact Or.inr (fun c => e c.symm)

abbrev Sm3 := Int × Int × Int
def sm0 : Sm3 := (0, 0, 0)
/-- A slice of small spans. -/
def SmAt (a : Option Addr) (l : List Sm3) (W : World) : Prop := l ≠ [] → ∃ b off, a = some ⟨b, off, none⟩ ∧ b < W.heap.size ∧ ∀ k, k < l.length →
  W.cell? ⟨b, off + k * 3, none⟩ = some (.int .i16 (l.getD k sm0).1) ∧ W.cell? ⟨b, off + k * 3 + 1, none⟩ = some (.int .i16 (l.getD k sm0).2.1) ∧ W.cell? ⟨b, off + k * 3 + 2, none⟩ = some (.int .u16 (l.getD k sm0).2.2)
def SmOk (s : Sm3) : Prop := -32768 ≤ s.1 ∧ s.1 ≤ 32767 ∧ -32768 ≤ s.2.1 ∧ s.2.1 ≤ 32767 ∧ 0 ≤ s.2.2 ∧ s.2.2 ≤ 65535
def spansOf (l : List Sm3) : List (Int × Int) := l.map fun s => spanOf s.1 s.2.1
def numsOf (l : List Sm3) : List Int := l.map fun s => numOf s.1 s.2.1 s.2.2
theorem spansOf_len (l : List Sm3) : (spansOf l).length = l.length := by simp [spansOf]
theorem numsOf_len (l : List Sm3) : (numsOf l).length = l.length := by simp [numsOf]
theorem spansOf_take (l : List Sm3) (k : Nat) (hk : k < l.length) : spansOf (l.take (k + 1)) = spansOf (l.take k) ++ [spanOf (l.getD k sm0).1 (l.getD k sm0).2.1] := by
  have e : l.getD k sm0 = l[k] := by simp [List.getD_eq_getElem?_getD, List.getElem?_eq_getElem hk]
  rw [List.take_succ_eq_append_getElem hk, e]
  unfold spansOf
  rw [List.map_append]
  rfl
theorem numsOf_take (l : List Sm3) (k : Nat) (hk : k < l.length) : numsOf (l.take (k + 1)) = numsOf (l.take k) ++ [numOf (l.getD k sm0).1 (l.getD k sm0).2.1 (l.getD k sm0).2.2] := by
  have e : l.getD k sm0 = l[k] := by simp [List.getD_eq_getElem?_getD, List.getElem?_eq_getElem hk]
  rw [List.take_succ_eq_append_getElem hk, e]
  unfold numsOf
  rw [List.map_append]
  rfl
theorem spansOf_get {l : List Sm3} {k : Nat} (hk : k < l.length) : (spansOf l).getD k (0, 0) = spanOf (l.getD k sm0).1 (l.getD k sm0).2.1 := by
  simp [spansOf, List.getD_eq_getElem?_getD, List.getElem?_eq_getElem hk]
theorem numsOf_get {l : List Sm3} {k : Nat} (hk : k < l.length) : (numsOf l).getD k 0 = numOf (l.getD k sm0).1 (l.getD k sm0).2.1 (l.getD k sm0).2.2 := by
  simp [numsOf, List.getD_eq_getElem?_getD, List.getElem?_eq_getElem hk]
theorem take_get {l : List Sm3} {n k : Nat} (hk : k < n) : (l.take n).getD k sm0 = l.getD k sm0 := by
  simp [List.getD_eq_getElem?_getD, List.getElem?_take_of_lt hk]

/-- What the law holds on to. -/
def HaSt (x y b z p : Value) (low high L : List (Int × Int)) (xs : List Int) (W : World) : Prop := SpRow x low W ∧ SpRow y high W ∧ SpRow b L W ∧ SpRow z L W ∧ IntRow p xs W
theorem HaSt.step {x y b z p : Value} {low high L : List (Int × Int)} {xs : List Int} {W w2 : World} (h : HaSt x y b z p low high L xs W) (hb : Below W.heap.size W w2) : HaSt x y b z p low high L xs w2 :=
  ⟨h.1.step hb, h.2.1.step hb, h.2.2.1.step hb, h.2.2.2.1.step hb, h.2.2.2.2.step hb⟩
theorem HaSt.hx {x y b z p : Value} {low high L : List (Int × Int)} {xs : List Int} {W : World} (h : HaSt x y b z p low high L xs W) : SpRow x low W := h.1
theorem HaSt.hy {x y b z p : Value} {low high L : List (Int × Int)} {xs : List Int} {W : World} (h : HaSt x y b z p low high L xs W) : SpRow y high W := h.2.1
theorem HaSt.hb {x y b z p : Value} {low high L : List (Int × Int)} {xs : List Int} {W : World} (h : HaSt x y b z p low high L xs W) : SpRow b L W := h.2.2.1
theorem HaSt.hz {x y b z p : Value} {low high L : List (Int × Int)} {xs : List Int} {W : World} (h : HaSt x y b z p low high L xs W) : SpRow z L W := h.2.2.2.1
theorem HaSt.hp {x y b z p : Value} {low high L : List (Int × Int)} {xs : List Int} {W : World} (h : HaSt x y b z p low high L xs W) : IntRow p xs W := h.2.2.2.2

end Go.Proofs.Ytngnehlmbipabaa

/-
  The walks of slices.Clone and slices.Equal over numbers; Same, SameCurve of the reference.
-/
set_option linter.unusedSimpArgs false
set_option linter.unusedVariables false
namespace Go.Proofs.Ytngnehlmbipabaa
open Go.RowKit

/-- The block g holds the row xs, and may be written. -/
def IntBlk (W : World) (g : Nat) (xs : List Int) : Prop := ∃ cur T, W.heap[g]? = some (.cells cur T (0, 0)) ∧ ∀ k, k < xs.length → cur[k]? = some (.int .i64 (xs.getD k 0))
theorem IntBlk.step {W w2 : World} {g : Nat} {xs : List Int} (h : IntBlk W g xs) (hb : Below W.heap.size W w2) : IntBlk w2 g xs := by
  obtain ⟨cur, T, h1, h2⟩ := h
  exact ⟨cur, T, blk_step h1 hb, h2⟩
theorem IntBlk.far {W : World} {g r o : Nat} {v : Value} {xs : List Int} (h : IntBlk W g xs) (hne : g ≠ r) : IntBlk (W.setCell ⟨r, o, none⟩ v) g xs := by
  obtain ⟨cur, T, h1, h2⟩ := h
  exact ⟨cur, T, blk_set_other h1 hne, h2⟩
theorem getDI_set {l : List Int} {i k : Nat} {s : Int} (hi : i < l.length) : (l.set i s).getD k 0 = if i = k then s else l.getD k 0 := by
  simp only [List.getD_eq_getElem?_getD, List.getElem?_set]
  split
  · rename_i h; subst h; simp [hi]
  · rfl
theorem IntBlk.set {W : World} {g i : Nat} {y : Int} {xs : List Int} (h : IntBlk W g xs) (hi : i < xs.length) : IntBlk (W.setCell ⟨g, i, none⟩ (.int .i64 y)) g (xs.set i y) := by
  obtain ⟨cur, T, h1, h2⟩ := h
  refine ⟨_, T, blk_set h1, fun k hk => ?_⟩
  rw [List.length_set] at hk
  have q1 := h2 k hk
  have q3 := h2 i hi
  have hlt : i < cur.size := (Array.getElem?_eq_some_iff.1 q3).1
  rw [getDI_set hi, Array.getElem?_setIfInBounds]
  by_cases e : i = k
  · subst e
    rw [if_pos rfl, if_pos rfl, if_pos hlt]
  · rw [if_neg e, if_neg e]
    exact q1
theorem IntBlk.at_ {W : World} {g : Nat} {xs : List Int} (h : IntBlk W g xs) : IntAt (some ⟨g, 0, none⟩) xs W := fun _ => by
  obtain ⟨cur, T, h1, h2⟩ := h
  exact ⟨g, 0, rfl, blk_lt h1, fun j hj => blk_cell h1 (by simpa using h2 j hj)⟩
theorem IntBlk.cells {W : World} {g : Nat} {xs : List Int} (h : IntBlk W g xs) {k : Nat} (hk : k < xs.length) : W.cell? ⟨g, k, none⟩ = some (.int .i64 (xs.getD k 0)) ∧ W.frozen? ⟨g, k, none⟩ = false := by
  obtain ⟨cur, T, h1, h2⟩ := h
  exact ⟨blk_cell h1 (h2 k hk), blk_free h1⟩
theorem IntOwn.blk {W : World} {B : Nat} {v : Value} {xs : List Int} (h : IntOwn W B v xs) (hn : xs ≠ []) : ∃ g c, v = .slice (some ⟨g, 0, none⟩) xs.length c ∧ B ≤ g ∧ IntBlk W g xs := by
  obtain ⟨h1, h2⟩ := h
  rcases h2 with ⟨rfl, h2⟩ | ⟨g, cap, cur, rfl, q2, q3, q4, q5, q6, q7⟩
  · exact absurd (List.length_eq_zero_iff.1 h2) hn
  · refine ⟨_, _, rfl, q2, cur, _, q3, fun j hj => ?_⟩
    have hf : (flatI xs)[j]? = some (.int .i64 (xs.getD j 0)) := by simp [flatI, List.getD_eq_getElem?_getD, List.getElem?_eq_getElem hj]
    rw [← q7, List.getElem?_take_of_lt (by omega)] at hf
    simpa using hf
theorem flatI_one {xs : List Int} : ∀ u ∈ flatI xs, u.oneCell' = true := by
  intro u hu
  unfold flatI at hu
  obtain ⟨x, _, rfl⟩ := List.mem_map.1 hu
  rfl
theorem flatI_len (xs : List Int) : (flatI xs).length = xs.length := by simp [flatI]

set_option maxHeartbeats 1000000 in
set_option maxRecDepth 20000 in
theorem CloneI_row (a : Option Addr) (c : Nat) (xs : List Int) (w : World) (hl : xs.length ≤ 1000000) (hv : IntAt a xs w) :
    Calls Try.prog 40 #[.slice a xs.length c] w fun e w' => ∃ x, e = .returned x ∧ IntOwn w' w.heap.size x xs ∧ Below w.heap.size w w' := by
  obtain ⟨i0, hi, hz0, hz1, hz2⟩ := info_parts infoI
  have HV := Lib.hid hv
  clear hv
  cases a with
  | none =>
    have hn : xs = [] := by
      by_cases h : xs = []
      · exact h
      · obtain ⟨b, off, h1, _⟩ := HV.out h
        cases h1
    subst hn
    clear HV
    have hE := Lib.run_eql_slice_nil (P := Try.prog) w 22 2 none 0 c 0 0 Try.underlying22
    go_enter Try.func40, Try.ntmps40
    go_wp2_with fail
    go_ret
    exact ⟨_, rfl, IntOwn.nil, Below.refl _ _⟩
  | some ad =>
    have hE := Lib.run_eql_slice_nil (P := Try.prog) w 22 2 (some ad) xs.length c 0 0 Try.underlying22
    have hcell : Hid (∀ j u, (flatI xs)[j]? = some u → (w.alloc (.cells #[] 2)).cell? (ad.add j) = some u) := by
      intro j u hu
      by_cases hn : xs = []
      · subst hn; simp [flatI] at hu
      · obtain ⟨b, off, he, hb, hc⟩ := HV.out hn
        cases he
        have hj : j < xs.length := by rw [← flatI_len]; exact (List.getElem?_eq_some_iff.1 hu).1
        have e : u = .int .i64 (xs.getD j 0) := by
          have : (flatI xs)[j]? = some (.int .i64 (xs.getD j 0)) := by simp [flatI, List.getD_eq_getElem?_getD, List.getElem?_eq_getElem hj]
          rw [this] at hu; exact (Option.some.inj hu).symm
        rw [e]
        have := cell_step (hc j hj) (bAl' (W := w) (o := .cells #[] 2))
        have hadd : ((⟨b, off, none⟩ : Addr).add j) = ⟨b, off + j, none⟩ := by simp [Addr.add]
        rw [hadd]
        exact this
    have hown : Hid ((w.alloc (.cells #[] 2)).ownsRow w.heap.size 2 1 (.slice (some ⟨w.heap.size, 0, none⟩) 0 0) 0 []) :=
      ⟨rfl, Or.inr ⟨w.heap.size, 0, #[], rfl, Nat.le_refl _, blk_new _ _, by omega, by decide, rfl, rfl⟩⟩
    have hlen : (flatI xs).length = xs.length * 1 := by rw [flatI_len]; omega
    have hone := flatI_one (xs := xs)
    have hfin : Hid (∀ (v : Value) (W : World), W.ownsRow w.heap.size 2 1 v (0 + xs.length) ([] ++ flatI xs) → IntOwn W w.heap.size v xs) := fun v W h => by
      rw [Nat.zero_add, List.nil_append] at h; exact h
    generalize flatI xs = FF at *
    clear HV
    go_enter Try.func40, Try.ntmps40
    go_wp2_with (at_builtin; refine wpList_append_own _ rfl (.tmp 5) (.tmp 6) 22 rfl (w.heap.size) 2 i0 (.int .i64 0) 1 8 Try.underlying22 hi hz0 hz1 hz2 rfl (by decide) _ _ _ rfl hown.out ad xs.length c FF rfl hlen hcell.out hone (by unfold maxLen; omega) (by omega) (by simp) ?_; intro v' w1 hown' hgrow hnil)
    have hO := hfin.out v' w1 hown'
    have hB : Below w.heap.size w w1 := (bAl' (W := w)).grown hgrow (by simp) (own_ge hown.out)
    clear hown' hgrow hown hcell hfin hnil
    go_wp2_with fail
    go_ret
    exact ⟨_, rfl, hO, hB⟩

theorem ints_eq {l m : List Int} (h3 : l.length = m.length) (h : ∀ k, k < l.length → l.getD k 0 = m.getD k 0) : l = m := by
  refine List.ext_getElem h3 fun k h1 h2 => ?_
  have := h k h1
  simpa [List.getD_eq_getElem?_getD, List.getElem?_eq_getElem h1, List.getElem?_eq_getElem h2] using this

set_option maxHeartbeats 1000000 in
set_option maxRecDepth 20000 in
theorem EqualI_row (a b : Option Addr) (ca cb : Nat) (l m : List Int) (w : World) (hl : l.length ≤ 1000000) (hm : m.length ≤ 1000000) (hA : IntAt a l w) (hB : IntAt b m w) :
    Calls Try.prog 44 #[.slice a l.length ca, .slice b m.length cb] w fun e w' => e = .returned (.bool (decide (l = m))) ∧ Below w.heap.size w w' := by
  by_cases h3 : l.length = m.length
  · have hg : ∀ B : Bool, (B = true ↔ ∀ k, k < l.length → l.getD k 0 = m.getD k 0) → B = decide (l = m) := by
      intro B hB
      rw [Bool.eq_iff_iff, hB, decide_eq_true_eq]
      constructor
      · exact ints_eq h3
      · intro h k _; rw [h]
    generalize decide (l = m) = r at *
    have HG := Lib.hid hg
    have H3 := Lib.hid h3
    rw [← h3]
    have HA := Lib.hid hA
    have HB := Lib.hid hB
    clear hg h3 hA hB hm
    go_enter Try.func44, Try.ntmps44
    go_wp2_with fail
    go_loopw [13] (fun i wr => ∃ (k n : Nat), k ≤ l.length ∧ i = .int .i64 k ∧ wr = w.drewN n ∧ Hid (∀ j, j < k → l.getD j 0 = m.getD j 0)) (fun i _ => l.length - (intOf i).toNat)
    case atStart => exact ⟨0, 0, by omega, rfl, rfl, fun j hj => by omega⟩
    case round =>
      obtain ⟨k, n, hk, rfl, rfl, HI⟩ := hrel
      by_cases hlt : k < l.length
      · have hlt2 : k < m.length := by rw [← H3.out]; exact hlt
        obtain ⟨bu, ou, rfl, q1⟩ := HA.out.at_ hlt
        obtain ⟨bv, ov, rfl, q3⟩ := HB.out.at_ hlt2
        have hgk : l.getD k 0 = l[k] := by simp [List.getD, List.getElem?_eq_getElem hlt]
        have hgm : m.getD k 0 = m[k] := by simp [List.getD, List.getElem?_eq_getElem hlt2]
        have HI2 : Hid (l[k] = m[k] → ∀ j, j < k + 1 → l.getD j 0 = m.getD j 0) := by
          intro h j hj
          rcases Nat.lt_or_ge j k with h' | h'
          · exact HI.out j h'
          · obtain rfl : j = k := by omega
            rw [hgk, hgm]; exact h
        have HN2 : Hid (l[k] ≠ m[k] → r = false) := by
          intro h
          refine (HG.out false ⟨fun h => absurd h (by decide), fun h' => ?_⟩).symm
          have := h' k hlt
          rw [hgk, hgm] at this
          exact absurd this h
        clear hgk hgm HG HI H3
        generalize l[k] = x1 at *
        generalize m[k] = y1 at *
        by_cases hx1 : x1 = y1
        · subst hx1
          have HI3 := Lib.hid (HI2.out rfl)
          clear HI2 HN2
          go_wp2_with fail
          go_quiet (fail)
          go_wp2_with fail
          go_roundw
          case rel => exact ⟨k + 1, _, by omega, by go_num, by first | exact Go.World.drewN_drewN .. | (simp; rfl) | rfl, HI3.out⟩
          case measure => (simp [intOf]; omega)
        · obtain rfl := HN2.out hx1
          clear HI2 HN2
          go_wp2_with fail
          go_quiet (fail)
          go_wp2_with fail
          go_ret
          exact ⟨rfl, (by repeat' (first | exact Below.refl _ _ | assumption | apply bDrewN | apply bDrew | apply bAlloc | (refine bSet ?_ ?_ _) | (refine bStep ?_ (by assumption)) | omega | (simp <;> omega)))⟩
      · obtain rfl : r = true := (HG.out true ⟨fun _ j hj => HI.out j (by omega), fun _ => rfl⟩).symm
        clear HA HB HI HG
        go_wp2_with fail
        go_ret
        exact ⟨rfl, (by repeat' (first | exact Below.refl _ _ | assumption | apply bDrewN | apply bDrew | apply bAlloc | (refine bSet ?_ ?_ _) | (refine bStep ?_ (by assumption)) | omega | (simp <;> omega)))⟩
  · have hr : decide (l = m) = false := decide_eq_false (fun h => h3 (by rw [h]))
    rw [hr]
    have h3' : (l.length : Int) ≠ (m.length : Int) := by omega
    clear hr hl hm h3 hA hB
    go_enter Try.func44, Try.ntmps44
    go_wp2_with fail
    go_ret
    exact ⟨rfl, (by repeat' (first | exact Below.refl _ _ | assumption | apply bDrewN | apply bDrew | apply bAlloc | (refine bSet ?_ ?_ _) | (refine bStep ?_ (by assumption)) | omega | (simp <;> omega)))⟩

set_option maxHeartbeats 1000000 in
set_option maxRecDepth 20000 in
theorem SameI_row (a b : Option Addr) (ca cb : Nat) (l m : List Int) (w : World) (hl : l.length ≤ 1000000) (hm : m.length ≤ 1000000) (hA : IntAt a l w) (hB : IntAt b m w) :
    Calls Try.prog 43 #[.slice a l.length ca, .slice b m.length cb] w fun e w' => e = .returned (.bool (decide (l = m))) ∧ Below w.heap.size w w' := by
  by_cases h3 : l.length = m.length
  · have hg : ∀ B : Bool, (B = true ↔ ∀ k, k < l.length → l.getD k 0 = m.getD k 0) → B = decide (l = m) := by
      intro B hB
      rw [Bool.eq_iff_iff, hB, decide_eq_true_eq]
      constructor
      · exact ints_eq h3
      · intro h k _; rw [h]
    generalize decide (l = m) = r at *
    have HG := Lib.hid hg
    have H3 := Lib.hid h3
    rw [← h3]
    have HA := Lib.hid hA
    have HB := Lib.hid hB
    clear hg h3 hA hB hm
    go_enter Try.func43, Try.ntmps43
    go_wp2_with fail
    go_loopw [5] (fun i wr => ∃ (k n : Nat), k ≤ l.length ∧ i = .int .i64 k ∧ wr = w.drewN n ∧ Hid (∀ j, j < k → l.getD j 0 = m.getD j 0)) (fun i _ => l.length - (intOf i).toNat)
    case atStart => exact ⟨0, 0, by omega, rfl, rfl, fun j hj => by omega⟩
    case round =>
      obtain ⟨k, n, hk, rfl, rfl, HI⟩ := hrel
      by_cases hlt : k < l.length
      · have hlt2 : k < m.length := by rw [← H3.out]; exact hlt
        obtain ⟨bu, ou, rfl, q1⟩ := HA.out.at_ hlt
        obtain ⟨bv, ov, rfl, q3⟩ := HB.out.at_ hlt2
        have hgk : l.getD k 0 = l[k] := by simp [List.getD, List.getElem?_eq_getElem hlt]
        have hgm : m.getD k 0 = m[k] := by simp [List.getD, List.getElem?_eq_getElem hlt2]
        have HI2 : Hid (l[k] = m[k] → ∀ j, j < k + 1 → l.getD j 0 = m.getD j 0) := by
          intro h j hj
          rcases Nat.lt_or_ge j k with h' | h'
          · exact HI.out j h'
          · obtain rfl : j = k := by omega
            rw [hgk, hgm]; exact h
        have HN2 : Hid (l[k] ≠ m[k] → r = false) := by
          intro h
          refine (HG.out false ⟨fun h => absurd h (by decide), fun h' => ?_⟩).symm
          have := h' k hlt
          rw [hgk, hgm] at this
          exact absurd this h
        clear hgk hgm HG HI H3
        generalize l[k] = x1 at *
        generalize m[k] = y1 at *
        by_cases hx1 : x1 = y1
        · subst hx1
          have HI3 := Lib.hid (HI2.out rfl)
          clear HI2 HN2
          go_wp2_with fail
          go_quiet (fail)
          go_wp2_with fail
          go_roundw
          case rel => exact ⟨k + 1, _, by omega, by go_num, by first | exact Go.World.drewN_drewN .. | (simp; rfl) | rfl, HI3.out⟩
          case measure => (simp [intOf]; omega)
        · obtain rfl := HN2.out hx1
          clear HI2 HN2
          go_wp2_with fail
          go_quiet (fail)
          go_wp2_with fail
          go_ret
          exact ⟨rfl, (by repeat' (first | exact Below.refl _ _ | assumption | apply bDrewN | apply bDrew | apply bAlloc | (refine bSet ?_ ?_ _) | (refine bStep ?_ (by assumption)) | omega | (simp <;> omega)))⟩
      · obtain rfl : r = true := (HG.out true ⟨fun _ j hj => HI.out j (by omega), fun _ => rfl⟩).symm
        clear HA HB HI HG
        go_wp2_with fail
        go_ret
        exact ⟨rfl, (by repeat' (first | exact Below.refl _ _ | assumption | apply bDrewN | apply bDrew | apply bAlloc | (refine bSet ?_ ?_ _) | (refine bStep ?_ (by assumption)) | omega | (simp <;> omega)))⟩
  · have hr : decide (l = m) = false := decide_eq_false (fun h => h3 (by rw [h]))
    rw [hr]
    have h3' : (l.length : Int) ≠ (m.length : Int) := by omega
    clear hr hl hm h3 hA hB
    go_enter Try.func43, Try.ntmps43
    go_wp2_with fail
    go_ret
    exact ⟨rfl, (by repeat' (first | exact Below.refl _ _ | assumption | apply bDrewN | apply bDrew | apply bAlloc | (refine bSet ?_ ?_ _) | (refine bStep ?_ (by assumption)) | omega | (simp <;> omega)))⟩


end Go.Proofs.Ytngnehlmbipabaa
