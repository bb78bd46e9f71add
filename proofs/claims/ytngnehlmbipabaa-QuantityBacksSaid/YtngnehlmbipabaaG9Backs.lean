/-
  Rows of spans: what a slice of spans holds; the walks of valid, CheckBox, all, BoxInside over any row; SameBox.
-/
import Derived.Test.YtngnehlmbipabaaG8Backs
import Derived.Test.YtngnehlmbipabaaG4Backs
import Derived.OwnWalk
set_option linter.unusedSimpArgs false
set_option linter.unusedVariables false
namespace Go.Proofs.Ytngnehlmbipabaa
open Go.RowKit

/-- The slice v reads as the list l. -/
def SpAt (a : Option Addr) (l : List (Int × Int)) (W : World) : Prop := l ≠ [] → ∃ b off, a = some ⟨b, off, none⟩ ∧ SpanCells W b off l
def SpRow (v : Value) (l : List (Int × Int)) (W : World) : Prop := ∃ (a : Option Addr) (c : Nat), v = .slice a l.length c ∧ SpAt a l W
theorem SpanCells.step {W w2 : World} {b off : Nat} {l : List (Int × Int)} (h : SpanCells W b off l) (hb : Below W.heap.size W w2) : SpanCells w2 b off l :=
  ⟨Nat.lt_of_lt_of_le h.1 hb.size, fun j hj => ⟨cell_step (h.2 j hj).1 hb, cell_step (h.2 j hj).2 hb⟩⟩
theorem SpRow.step {v : Value} {l : List (Int × Int)} {W w2 : World} (h : SpRow v l W) (hb : Below W.heap.size W w2) : SpRow v l w2 := by
  obtain ⟨a, c, rfl, h⟩ := h
  exact ⟨a, c, rfl, fun hn => by obtain ⟨b, off, rfl, hc⟩ := h hn; exact ⟨b, off, rfl, hc.step hb⟩⟩
theorem SpAt.step {a : Option Addr} {l : List (Int × Int)} {W w2 : World} (h : SpAt a l W) (hb : Below W.heap.size W w2) : SpAt a l w2 := fun hn => by
  obtain ⟨b, off, rfl, hc⟩ := h hn; exact ⟨b, off, rfl, hc.step hb⟩
theorem SpAt.row {a : Option Addr} {c : Nat} {l : List (Int × Int)} {W : World} (h : SpAt a l W) : SpRow (.slice a l.length c) l W := ⟨a, c, rfl, h⟩
theorem SpRow.nil {W : World} : SpRow (.slice none 0 0) [] W := ⟨none, 0, rfl, fun h => absurd rfl h⟩
theorem SpanCells.at_ {W : World} {b off : Nat} {l : List (Int × Int)} (h : SpanCells W b off l) {k : Nat} (hk : k < l.length) :
    W.cell? ⟨b, off + k * 2, none⟩ = some (.int .i64 (l[k]).1) ∧ W.cell? ⟨b, off + k * 2 + 1, none⟩ = some (.int .i64 (l[k]).2) := by
  have := h.2 k hk
  simpa [List.getD, List.getElem?_eq_getElem hk] using this

theorem valid_row (v : Value) (l : List (Int × Int)) (w : World) (hl : l.length ≤ 9223372036854775807) (h : SpRow v l w) :
    Calls Try.prog 54 #[v] w fun e w' => e = .returned (.bool (l.all okS)) ∧ Below w.heap.size w w' := by
  obtain ⟨a, c, rfl, h⟩ := h
  by_cases hn : l = []
  · subst hn
    exact (valid_nil a c w).mono fun e w' ⟨h1, h2⟩ => ⟨by simpa using h1, by subst h2; exact Below.refl _ _⟩
  · obtain ⟨b, off, rfl, hc⟩ := h hn
    exact valid_any l b off c w hl hc

/-- What CheckBox returns. -/
def checkB (l : List (Int × Int)) : Int := if 8 < l.length then 6 else if l.all okS = true then 0 else 2
theorem checkB_ok {l : List (Int × Int)} : checkB l = 0 ↔ l.length ≤ 8 ∧ l.all okS = true := by
  unfold checkB
  split
  · constructor
    · intro h; exact absurd h (by decide)
    · intro h; omega
  · split
    · rename_i h1 h2; exact ⟨fun _ => ⟨by omega, h2⟩, fun _ => rfl⟩
    · rename_i h1 h2; exact ⟨fun h => absurd h (by decide), fun h => absurd h.2 h2⟩
set_option maxHeartbeats 400000 in
theorem CheckBox_row (v : Value) (l : List (Int × Int)) (w : World) (hl : l.length ≤ 9223372036854775807) (h : SpRow v l w) :
    Calls Try.prog 19 #[v] w fun e w' => e = .returned (.int .i64 (checkB l)) ∧ Below w.heap.size w w' := by
  have V := Lib.hid (fun w h => valid_row v l w hl h)
  have H := Lib.hid h
  obtain ⟨a, c, rfl, h⟩ := h
  clear h
  unfold checkB
  by_cases h8 : 8 < l.length
  · rw [if_pos h8]
    go_enter Try.func19, Try.ntmps19
    go_wp2_with fail
    go_ret
    exact ⟨rfl, (by repeat' (first | exact Below.refl _ _ | assumption | apply bDrewN | apply bDrew | apply bAlloc | (refine bSet ?_ ?_ _) | (refine bStep ?_ (by assumption)) | omega | (simp <;> omega)))⟩
  · rw [if_neg h8]
    cases hv : l.all okS
    all_goals
      rw [hv] at V
      clear hv
      go_enter Try.func19, Try.ntmps19
      go_wp2_with (go_at_call 54; refine (V.out _ H.out).mono ?_; rintro e w1 ⟨rfl, hb⟩)
      go_ret
      exact ⟨by simp, (by repeat' (first | exact Below.refl _ _ | assumption | apply bDrewN | apply bDrew | apply bAlloc | (refine bSet ?_ ?_ _) | (refine bStep ?_ (by assumption)) | omega | (simp <;> omega)))⟩

/-- The cells of two spans, from a world on. -/
def Four (b o : Nat) (x1 x2 : Int) (c p : Nat) (y1 y2 : Int) (w W : World) : Prop :=
  W.cell? ⟨b, o, none⟩ = some (.int .i64 x1) ∧ W.cell? ⟨b, o + 1, none⟩ = some (.int .i64 x2) ∧ W.cell? ⟨c, p, none⟩ = some (.int .i64 y1) ∧ W.cell? ⟨c, p + 1, none⟩ = some (.int .i64 y2) ∧ Below w.heap.size w W
theorem Four.step {b o c p : Nat} {x1 x2 y1 y2 : Int} {w W w2 : World} (h : Four b o x1 x2 c p y1 y2 w W) (hb : Below W.heap.size W w2) : Four b o x1 x2 c p y1 y2 w w2 := by
  obtain ⟨h1, h2, h3, h4, h5⟩ := h
  exact ⟨cell_step h1 hb, cell_step h2 hb, cell_step h3 hb, cell_step h4 hb, bStep h5 hb⟩
theorem bAl' {W : World} {o : Obj} : Below W.heap.size W (W.alloc o) := (Below.refl _ _).alloc (Nat.le_refl _) _

/-- What the closure of BoxHas says. -/
def hasP (x y : Int × Int) : Bool := hasS x y.1
theorem boxHas1_any (x y : Int × Int) (w : World) : Calls Try.prog 62 #[.agg #[.int .i64 x.1, .int .i64 x.2], .agg #[.int .i64 y.1, .int .i64 y.2]] w fun e w' => e = .returned (.bool (hasP x y)) ∧ Below w.heap.size w w' := by
  unfold hasP
  have C := Lib.hid (fun w => Has_any x y.1 w)
  generalize hasS x y.1 = r at *
  obtain ⟨x1, x2⟩ := x
  obtain ⟨y1, y2⟩ := y
  dsimp only at *
  go_enter Try.func62, Try.ntmps62
  go_wp2_with (go_at_call 16; refine (C.out _).mono ?_; rintro e w1 ⟨rfl, hb⟩)
  go_ret
  exact ⟨rfl, (by repeat' (first | exact Below.refl _ _ | assumption | apply bDrewN | apply bDrew | apply bAlloc | (refine bSet ?_ ?_ _) | (refine bStep ?_ (by assumption)) | omega | (simp <;> omega)))⟩

/-- Two rows whose pairs are all so. -/
def allS (g : Int × Int → Int × Int → Bool) (l m : List (Int × Int)) : Bool := decide (checkB l = 0 ∧ checkB m = 0 ∧ l.length = m.length ∧ ∀ k, k < l.length → g (l.getD k (0, 0)) (m.getD k (0, 0)) = true)

set_option maxHeartbeats 1000000 in
theorem all_has (v u : Value) (l m : List (Int × Int)) (w : World) (hl : l.length ≤ 9223372036854775807) (hm : m.length ≤ 9223372036854775807) (hv : SpRow v l w) (hu : SpRow u m w) :
    Calls Try.prog 61 #[v, u, .func (.func 62) #[] #[]] w fun e w' => e = .returned (.bool (allS hasP l m)) ∧ Below w.heap.size w w' := by
  have V := Lib.hid (fun w h => CheckBox_row v l w hl h)
  have U := Lib.hid (fun w h => CheckBox_row u m w hm h)
  have G := Lib.hid boxHas1_any
  have HV := Lib.hid hv
  have HU := Lib.hid hu
  obtain ⟨a, ca, rfl, hA⟩ := hv
  obtain ⟨b, cb, rfl, hB⟩ := hu
  by_cases h1 : checkB l = 0
  · rw [h1] at V
    by_cases h2 : checkB m = 0
    · rw [h2] at U
      by_cases h3 : l.length = m.length
      · have hg : ∀ B : Bool, (B = true ↔ ∀ k, k < l.length → hasP (l.getD k (0, 0)) (m.getD k (0, 0)) = true) → B = allS hasP l m := by
          intro B hB
          unfold allS
          rw [Bool.eq_iff_iff, hB, decide_eq_true_eq]
          exact ⟨fun h => ⟨h1, h2, h3, h⟩, fun h => h.2.2.2⟩
        generalize allS hasP l m = r at *
        have HG := Lib.hid hg
        have hB8 : l.length ≤ 8 := (checkB_ok.1 h1).1
        rw [← h3] at U HU ⊢
        have H3 := Lib.hid h3
        have HA := Lib.hid hA
        have HB := Lib.hid hB
        clear h1 h2 hg hl hm h3 hA hB
        go_enter Try.func61, Try.ntmps61
        go_upto_region 4 with (go_at_call 19; first | (with_reducible refine (V.out _ HV.out).mono ?_; rintro e w1 ⟨rfl, hb1⟩; have hx := HU.out.step hb1; clear HU; have HU := Lib.hid hx; clear hx) | (with_reducible refine (U.out _ HU.out).mono ?_; rintro e w2 ⟨rfl, hb2⟩) | fail)
        have HA := Lib.hid ((HA.out.step hb1).step hb2)
        have HB := Lib.hid ((HB.out.step hb1).step hb2)
        have kB : Below w.heap.size w w2 := bStep hb1 hb2
        clear V U HV HU hb1 hb2
        go_loopw [25] (fun i wr => ∃ k : Nat, k ≤ l.length ∧ i = .int .i64 k ∧ Below w.heap.size w wr ∧ Hid (SpAt a l wr) ∧ Hid (SpAt b m wr) ∧ Hid (∀ j, j < k → hasP (l.getD j (0, 0)) (m.getD j (0, 0)) = true)) (fun i _ => l.length - (intOf i).toNat)
        case atStart => exact ⟨0, by omega, rfl, kB, HA.out, HB.out, fun j hj => by omega⟩
        case round =>
          clear HA HB kB
          obtain ⟨k, hk, rfl, kB, HA, HB, HI⟩ := hrel
          by_cases hlt : k < l.length
          · have hlt2 : k < m.length := by rw [← H3.out]; exact hlt
            obtain ⟨b0, o0, rfl, hc⟩ := HA.out (fun h => by rw [h] at hlt; simp at hlt)
            obtain ⟨b1, o1, rfl, hd⟩ := HB.out (fun h => by rw [h] at hlt2; simp at hlt2)
            obtain ⟨q1, q2⟩ := hc.at_ hlt
            obtain ⟨q3, q4⟩ := hd.at_ hlt2
            have HF := Lib.hid (show Four b0 (o0 + k * 2) (l[k]).1 (l[k]).2 b1 (o1 + k * 2) (m[k]).1 (m[k]).2 wr wr from ⟨q1, q2, q3, q4, Below.refl _ _⟩)
            have hgk : l.getD k (0, 0) = l[k] := by simp [List.getD, List.getElem?_eq_getElem hlt]
            have hgm : m.getD k (0, 0) = m[k] := by simp [List.getD, List.getElem?_eq_getElem hlt2]
            have GK := Lib.hid (fun w => G.out (l[k]) (m[k]) w)
            have HI2 : Hid (hasP (l[k]) (m[k]) = true → ∀ j, j < k + 1 → hasP (l.getD j (0, 0)) (m.getD j (0, 0)) = true) := by
              intro h j hj
              rcases Nat.lt_or_ge j k with h' | h'
              · exact HI.out j h'
              · obtain rfl : j = k := by omega
                rw [hgk, hgm]; exact h
            have HN2 : Hid (hasP (l[k]) (m[k]) = false → r = false) := by
              intro h
              refine (HG.out false ⟨fun h => absurd h (by decide), fun h' => ?_⟩).symm
              have := h' k hlt
              rw [hgk, hgm, h] at this
              exact absurd this (by decide)
            generalize hasP (l[k]) (m[k]) = z at *
            clear hc hd hgk hgm HG HI G
            generalize l[k] = x at *
            generalize m[k] = y at *
            obtain ⟨x1, x2⟩ := x
            obtain ⟨y1, y2⟩ := y
            dsimp only at *
            go_upto_region 6 with fail
            go_region_held3 (fun W => W.cell? ⟨b0, o0 + k * 2, none⟩ = some (.int .i64 x1) ∧ W.cell? ⟨b0, o0 + k * 2 + 1, none⟩ = some (.int .i64 x2) ∧ W.cell? ⟨b1, o1 + k * 2, none⟩ = some (.int .i64 y1) ∧ W.cell? ⟨b1, o1 + k * 2 + 1, none⟩ = some (.int .i64 y2) ∧ Below wr.heap.size wr W)
              ((first | exact Four.step HF.out (Below.refl _ _).drew | exact Four.step (show Four b0 (o0 + k * 2) x1 x2 b1 (o1 + k * 2) y1 y2 wr _ by assumption) (by assumption) | exact Four.step (show Four b0 (o0 + k * 2) x1 x2 b1 (o1 + k * 2) y1 y2 wr _ by assumption) bAl'))
              ((go_at_call 62; refine (GK.out _).mono ?_; rintro e w7 ⟨rfl, hb7⟩))
            have hN := (‹_ ∧ _ ∧ _ ∧ _ ∧ Below wr.heap.size wr _›).2.2.2.2
            cases z
            · go_wp2_with fail
              obtain rfl : r = false := HN2.out (by first | rfl | trivial)
              go_ret
              exact ⟨rfl, bStep kB hN⟩
            · go_wp2_with fail
              go_roundw
              case rel => exact ⟨k + 1, by omega, by go_num, bStep kB hN, HA.out.step hN, HB.out.step hN, HI2.out (by first | rfl | trivial)⟩
              case measure => (simp [intOf]; omega)
          · obtain rfl : r = true := (HG.out true ⟨fun _ j hj => HI.out j (by omega), fun _ => rfl⟩).symm
            clear HA HB HI HG
            go_wp2_with fail
            go_ret
            exact ⟨rfl, (by repeat' (first | exact Below.refl _ _ | assumption | apply bDrewN | apply bDrew | apply bAlloc | (refine bSet ?_ ?_ _) | (refine bStep ?_ (by assumption)) | omega | (simp <;> omega)))⟩
      · have hr : allS hasP l m = false := by unfold allS; exact decide_eq_false (fun h => h3 h.2.2.1)
        rw [hr]
        have h3' : (l.length : Int) ≠ (m.length : Int) := by omega
        clear hr hl hm h1 h2 h3 hA hB
        go_enter Try.func61, Try.ntmps61
        go_wp2_with (go_at_call 19; first | (with_reducible refine (V.out _ HV.out).mono ?_; rintro e w1 ⟨rfl, hb1⟩; have hx := HU.out.step hb1; clear HU; have HU := Lib.hid hx; clear hx) | (with_reducible refine (U.out _ HU.out).mono ?_; rintro e w2 ⟨rfl, hb2⟩))
        go_ret
        exact ⟨rfl, (by repeat' (first | exact Below.refl _ _ | assumption | apply bDrewN | apply bDrew | apply bAlloc | (refine bSet ?_ ?_ _) | (refine bStep ?_ (by assumption)) | omega | (simp <;> omega)))⟩
    · have hr : allS hasP l m = false := by unfold allS; exact decide_eq_false (fun h => h2 h.2.1)
      rw [hr]
      generalize checkB m = z at *
      clear hr hl hm h1 hA hB
      go_enter Try.func61, Try.ntmps61
      go_wp2_with (go_at_call 19; first | (with_reducible refine (V.out _ HV.out).mono ?_; rintro e w1 ⟨rfl, hb1⟩; have hx := HU.out.step hb1; clear HU; have HU := Lib.hid hx; clear hx) | (with_reducible refine (U.out _ HU.out).mono ?_; rintro e w2 ⟨rfl, hb2⟩))
      go_ret
      exact ⟨rfl, (by repeat' (first | exact Below.refl _ _ | assumption | apply bDrewN | apply bDrew | apply bAlloc | (refine bSet ?_ ?_ _) | (refine bStep ?_ (by assumption)) | omega | (simp <;> omega)))⟩
  · have hr : allS hasP l m = false := by unfold allS; exact decide_eq_false (fun h => h1 h.1)
    rw [hr]
    generalize checkB l = z at *
    clear hr hl hm hA hB
    go_enter Try.func61, Try.ntmps61
    go_wp2_with (go_at_call 19; (with_reducible refine (V.out _ HV.out).mono ?_); rintro e w1 ⟨rfl, hb1⟩)
    go_ret
    exact ⟨rfl, (by repeat' (first | exact Below.refl _ _ | assumption | apply bDrewN | apply bDrew | apply bAlloc | (refine bSet ?_ ?_ _) | (refine bStep ?_ (by assumption)) | omega | (simp <;> omega)))⟩

set_option maxHeartbeats 1000000 in
theorem all_ins (v u : Value) (l m : List (Int × Int)) (w : World) (hl : l.length ≤ 9223372036854775807) (hm : m.length ≤ 9223372036854775807) (hv : SpRow v l w) (hu : SpRow u m w) :
    Calls Try.prog 61 #[v, u, .func (.func 64) #[] #[]] w fun e w' => e = .returned (.bool (allS insideS l m)) ∧ Below w.heap.size w w' := by
  have V := Lib.hid (fun w h => CheckBox_row v l w hl h)
  have U := Lib.hid (fun w h => CheckBox_row u m w hm h)
  have G := Lib.hid Inside_any
  have HV := Lib.hid hv
  have HU := Lib.hid hu
  obtain ⟨a, ca, rfl, hA⟩ := hv
  obtain ⟨b, cb, rfl, hB⟩ := hu
  by_cases h1 : checkB l = 0
  · rw [h1] at V
    by_cases h2 : checkB m = 0
    · rw [h2] at U
      by_cases h3 : l.length = m.length
      · have hg : ∀ B : Bool, (B = true ↔ ∀ k, k < l.length → insideS (l.getD k (0, 0)) (m.getD k (0, 0)) = true) → B = allS insideS l m := by
          intro B hB
          unfold allS
          rw [Bool.eq_iff_iff, hB, decide_eq_true_eq]
          exact ⟨fun h => ⟨h1, h2, h3, h⟩, fun h => h.2.2.2⟩
        generalize allS insideS l m = r at *
        have HG := Lib.hid hg
        have hB8 : l.length ≤ 8 := (checkB_ok.1 h1).1
        rw [← h3] at U HU ⊢
        have H3 := Lib.hid h3
        have HA := Lib.hid hA
        have HB := Lib.hid hB
        clear h1 h2 hg hl hm h3 hA hB
        go_enter Try.func61, Try.ntmps61
        go_upto_region 4 with (go_at_call 19; first | (with_reducible refine (V.out _ HV.out).mono ?_; rintro e w1 ⟨rfl, hb1⟩; have hx := HU.out.step hb1; clear HU; have HU := Lib.hid hx; clear hx) | (with_reducible refine (U.out _ HU.out).mono ?_; rintro e w2 ⟨rfl, hb2⟩) | fail)
        have HA := Lib.hid ((HA.out.step hb1).step hb2)
        have HB := Lib.hid ((HB.out.step hb1).step hb2)
        have kB : Below w.heap.size w w2 := bStep hb1 hb2
        clear V U HV HU hb1 hb2
        go_loopw [25] (fun i wr => ∃ k : Nat, k ≤ l.length ∧ i = .int .i64 k ∧ Below w.heap.size w wr ∧ Hid (SpAt a l wr) ∧ Hid (SpAt b m wr) ∧ Hid (∀ j, j < k → insideS (l.getD j (0, 0)) (m.getD j (0, 0)) = true)) (fun i _ => l.length - (intOf i).toNat)
        case atStart => exact ⟨0, by omega, rfl, kB, HA.out, HB.out, fun j hj => by omega⟩
        case round =>
          clear HA HB kB
          obtain ⟨k, hk, rfl, kB, HA, HB, HI⟩ := hrel
          by_cases hlt : k < l.length
          · have hlt2 : k < m.length := by rw [← H3.out]; exact hlt
            obtain ⟨b0, o0, rfl, hc⟩ := HA.out (fun h => by rw [h] at hlt; simp at hlt)
            obtain ⟨b1, o1, rfl, hd⟩ := HB.out (fun h => by rw [h] at hlt2; simp at hlt2)
            obtain ⟨q1, q2⟩ := hc.at_ hlt
            obtain ⟨q3, q4⟩ := hd.at_ hlt2
            have HF := Lib.hid (show Four b0 (o0 + k * 2) (l[k]).1 (l[k]).2 b1 (o1 + k * 2) (m[k]).1 (m[k]).2 wr wr from ⟨q1, q2, q3, q4, Below.refl _ _⟩)
            have hgk : l.getD k (0, 0) = l[k] := by simp [List.getD, List.getElem?_eq_getElem hlt]
            have hgm : m.getD k (0, 0) = m[k] := by simp [List.getD, List.getElem?_eq_getElem hlt2]
            have GK := Lib.hid (fun w => G.out (l[k]) (m[k]) w)
            have HI2 : Hid (insideS (l[k]) (m[k]) = true → ∀ j, j < k + 1 → insideS (l.getD j (0, 0)) (m.getD j (0, 0)) = true) := by
              intro h j hj
              rcases Nat.lt_or_ge j k with h' | h'
              · exact HI.out j h'
              · obtain rfl : j = k := by omega
                rw [hgk, hgm]; exact h
            have HN2 : Hid (insideS (l[k]) (m[k]) = false → r = false) := by
              intro h
              refine (HG.out false ⟨fun h => absurd h (by decide), fun h' => ?_⟩).symm
              have := h' k hlt
              rw [hgk, hgm, h] at this
              exact absurd this (by decide)
            generalize insideS (l[k]) (m[k]) = z at *
            clear hc hd hgk hgm HG HI G
            generalize l[k] = x at *
            generalize m[k] = y at *
            obtain ⟨x1, x2⟩ := x
            obtain ⟨y1, y2⟩ := y
            dsimp only at *
            go_upto_region 6 with fail
            go_region_held3 (fun W => W.cell? ⟨b0, o0 + k * 2, none⟩ = some (.int .i64 x1) ∧ W.cell? ⟨b0, o0 + k * 2 + 1, none⟩ = some (.int .i64 x2) ∧ W.cell? ⟨b1, o1 + k * 2, none⟩ = some (.int .i64 y1) ∧ W.cell? ⟨b1, o1 + k * 2 + 1, none⟩ = some (.int .i64 y2) ∧ Below wr.heap.size wr W)
              ((first | exact Four.step HF.out (Below.refl _ _).drew | exact Four.step (show Four b0 (o0 + k * 2) x1 x2 b1 (o1 + k * 2) y1 y2 wr _ by assumption) (by assumption) | exact Four.step (show Four b0 (o0 + k * 2) x1 x2 b1 (o1 + k * 2) y1 y2 wr _ by assumption) bAl'))
              ((go_at_call 64; refine (GK.out _).mono ?_; rintro e w7 ⟨rfl, hb7⟩))
            have hN := (‹_ ∧ _ ∧ _ ∧ _ ∧ Below wr.heap.size wr _›).2.2.2.2
            cases z
            · go_wp2_with fail
              obtain rfl : r = false := HN2.out (by first | rfl | trivial)
              go_ret
              exact ⟨rfl, bStep kB hN⟩
            · go_wp2_with fail
              go_roundw
              case rel => exact ⟨k + 1, by omega, by go_num, bStep kB hN, HA.out.step hN, HB.out.step hN, HI2.out (by first | rfl | trivial)⟩
              case measure => (simp [intOf]; omega)
          · obtain rfl : r = true := (HG.out true ⟨fun _ j hj => HI.out j (by omega), fun _ => rfl⟩).symm
            clear HA HB HI HG
            go_wp2_with fail
            go_ret
            exact ⟨rfl, (by repeat' (first | exact Below.refl _ _ | assumption | apply bDrewN | apply bDrew | apply bAlloc | (refine bSet ?_ ?_ _) | (refine bStep ?_ (by assumption)) | omega | (simp <;> omega)))⟩
      · have hr : allS insideS l m = false := by unfold allS; exact decide_eq_false (fun h => h3 h.2.2.1)
        rw [hr]
        have h3' : (l.length : Int) ≠ (m.length : Int) := by omega
        clear hr hl hm h1 h2 h3 hA hB
        go_enter Try.func61, Try.ntmps61
        go_wp2_with (go_at_call 19; first | (with_reducible refine (V.out _ HV.out).mono ?_; rintro e w1 ⟨rfl, hb1⟩; have hx := HU.out.step hb1; clear HU; have HU := Lib.hid hx; clear hx) | (with_reducible refine (U.out _ HU.out).mono ?_; rintro e w2 ⟨rfl, hb2⟩))
        go_ret
        exact ⟨rfl, (by repeat' (first | exact Below.refl _ _ | assumption | apply bDrewN | apply bDrew | apply bAlloc | (refine bSet ?_ ?_ _) | (refine bStep ?_ (by assumption)) | omega | (simp <;> omega)))⟩
    · have hr : allS insideS l m = false := by unfold allS; exact decide_eq_false (fun h => h2 h.2.1)
      rw [hr]
      generalize checkB m = z at *
      clear hr hl hm h1 hA hB
      go_enter Try.func61, Try.ntmps61
      go_wp2_with (go_at_call 19; first | (with_reducible refine (V.out _ HV.out).mono ?_; rintro e w1 ⟨rfl, hb1⟩; have hx := HU.out.step hb1; clear HU; have HU := Lib.hid hx; clear hx) | (with_reducible refine (U.out _ HU.out).mono ?_; rintro e w2 ⟨rfl, hb2⟩))
      go_ret
      exact ⟨rfl, (by repeat' (first | exact Below.refl _ _ | assumption | apply bDrewN | apply bDrew | apply bAlloc | (refine bSet ?_ ?_ _) | (refine bStep ?_ (by assumption)) | omega | (simp <;> omega)))⟩
  · have hr : allS insideS l m = false := by unfold allS; exact decide_eq_false (fun h => h1 h.1)
    rw [hr]
    generalize checkB l = z at *
    clear hr hl hm hA hB
    go_enter Try.func61, Try.ntmps61
    go_wp2_with (go_at_call 19; (with_reducible refine (V.out _ HV.out).mono ?_); rintro e w1 ⟨rfl, hb1⟩)
    go_ret
    exact ⟨rfl, (by repeat' (first | exact Below.refl _ _ | assumption | apply bDrewN | apply bDrew | apply bAlloc | (refine bSet ?_ ?_ _) | (refine bStep ?_ (by assumption)) | omega | (simp <;> omega)))⟩


end Go.Proofs.Ytngnehlmbipabaa

/-
  Rows of spans that a function has made itself by append.
-/
set_option linter.unusedSimpArgs false
set_option linter.unusedVariables false
namespace Go.Proofs.Ytngnehlmbipabaa
open Go.RowKit

def flatS (l : List (Int × Int)) : List Value := l.flatMap fun s => [.int .i64 s.1, .int .i64 s.2]
theorem flatS_cons (s : Int × Int) (l : List (Int × Int)) : flatS (s :: l) = .int .i64 s.1 :: .int .i64 s.2 :: flatS l := rfl
theorem flatS_len (l : List (Int × Int)) : (flatS l).length = l.length * 2 := by
  induction l with
  | nil => rfl
  | cons s l ih => rw [flatS_cons]; simp [ih]; omega
theorem flatS_get (l : List (Int × Int)) : ∀ k, k < l.length → (flatS l)[k * 2]? = some (.int .i64 (l.getD k (0, 0)).1) ∧ (flatS l)[k * 2 + 1]? = some (.int .i64 (l.getD k (0, 0)).2) := by
  induction l with
  | nil => intro k hk; simp at hk
  | cons s l ih =>
    intro k hk
    rw [flatS_cons]
    cases k with
    | zero => exact ⟨rfl, rfl⟩
    | succ k =>
      have := ih k (by simp at hk; omega)
      have e1 : (k + 1) * 2 = k * 2 + 1 + 1 := by omega
      rw [e1]
      simp only [List.getElem?_cons_succ, List.getD_cons_succ]
      exact this
theorem flatS_append (l m : List (Int × Int)) : flatS (l ++ m) = flatS l ++ flatS m := by simp [flatS]

/-- The slice v owns the row l, in a block from B on. -/
def SpOwn (W : World) (B : Nat) (v : Value) (l : List (Int × Int)) : Prop := W.ownsRow B 40 2 v l.length (flatS l)
theorem SpOwn.nil {W : World} {B : Nat} : SpOwn W B (.slice none 0 0) [] := ⟨rfl, Or.inl ⟨rfl, rfl⟩⟩
theorem SpOwn.step {W w2 : World} {B : Nat} {v : Value} {l : List (Int × Int)} (h : SpOwn W B v l) (hb : Below W.heap.size W w2) : SpOwn w2 B v l := by
  obtain ⟨h1, h2⟩ := h
  refine ⟨h1, ?_⟩
  rcases h2 with h2 | ⟨g, cap, cur, q1, q2, q3, q4⟩
  · exact Or.inl h2
  · exact Or.inr ⟨g, cap, cur, q1, q2, blk_step q3 hb, q4⟩
theorem SpOwn.at_ {W : World} {B : Nat} {v : Value} {l : List (Int × Int)} (h : SpOwn W B v l) : ∃ a c, v = .slice a l.length c ∧ SpAt a l W := by
  obtain ⟨h1, h2⟩ := h
  rcases h2 with ⟨rfl, h2⟩ | ⟨g, cap, cur, rfl, q2, q3, q4, q5, q6, q7⟩
  · refine ⟨none, 0, by rw [h2], fun hn => ?_⟩
    exact absurd (List.length_eq_zero_iff.1 h2) hn
  · refine ⟨_, _, rfl, fun _ => ⟨g, 0, rfl, blk_lt q3, fun j hj => ?_⟩⟩
    have hf := flatS_get l j hj
    rw [← q7] at hf
    rw [List.getElem?_take_of_lt (by omega), List.getElem?_take_of_lt (by omega)] at hf
    exact ⟨blk_cell q3 (by simpa using hf.1), blk_cell q3 (by simpa using hf.2)⟩
theorem SpOwn.row {W : World} {B : Nat} {v : Value} {l : List (Int × Int)} (h : SpOwn W B v l) : SpRow v l W := h.at_
theorem own_ge {W : World} {B e s : Nat} {v : Value} {n : Nat} {xs : List Value} (h : W.ownsRow B e s v n xs) : ∀ k, v.ownBlock = some k → B ≤ k := by
  intro k hk
  rcases h.2 with ⟨rfl, _⟩ | ⟨g, cap, cur, rfl, q2, _⟩
  · cases hk
  · cases hk; exact q2
theorem SpOwn.more {W : World} {B : Nat} {v : Value} {l : List (Int × Int)} {x y : Int} (h : W.ownsRow B 40 2 v (l.length + 1) (flatS l ++ [.int .i64 x, .int .i64 y])) : SpOwn W B v (l ++ [(x, y)]) := by
  unfold SpOwn
  rw [flatS_append, List.length_append]
  exact h

/-- A slice of whole numbers. -/
def IntAt (a : Option Addr) (xs : List Int) (W : World) : Prop := xs ≠ [] → ∃ b off, a = some ⟨b, off, none⟩ ∧ b < W.heap.size ∧ ∀ k, k < xs.length → W.cell? ⟨b, off + k, none⟩ = some (.int .i64 (xs.getD k 0))
def IntRow (v : Value) (xs : List Int) (W : World) : Prop := ∃ (a : Option Addr) (c : Nat), v = .slice a xs.length c ∧ IntAt a xs W
theorem IntAt.step {a : Option Addr} {xs : List Int} {W w2 : World} (h : IntAt a xs W) (hb : Below W.heap.size W w2) : IntAt a xs w2 := fun hn => by
  obtain ⟨b, off, rfl, h1, h2⟩ := h hn
  exact ⟨b, off, rfl, Nat.lt_of_lt_of_le h1 hb.size, fun k hk => cell_step (h2 k hk) hb⟩
theorem IntRow.step {v : Value} {xs : List Int} {W w2 : World} (h : IntRow v xs W) (hb : Below W.heap.size W w2) : IntRow v xs w2 := by
  obtain ⟨a, c, rfl, h⟩ := h
  exact ⟨a, c, rfl, h.step hb⟩
theorem IntAt.at_ {a : Option Addr} {xs : List Int} {W : World} (h : IntAt a xs W) {k : Nat} (hk : k < xs.length) : ∃ b off, a = some ⟨b, off, none⟩ ∧ W.cell? ⟨b, off + k, none⟩ = some (.int .i64 xs[k]) := by
  obtain ⟨b, off, rfl, _, h2⟩ := h (fun e => by rw [e] at hk; simp at hk)
  have := h2 k hk
  rw [List.getD_eq_getElem?_getD, List.getElem?_eq_getElem hk] at this
  exact ⟨b, off, rfl, this⟩

theorem infoSp : (Try.prog.info? 40).map (fun i => (i.zero, i.size, i.bytes)) = some (some (.agg #[.int .i64 0, .int .i64 0]), 2, 16) := by kernel_rfl

theorem two_cells (W : World) (x y : Int) (T : TypeId) : ∀ j u, [Value.int .i64 x, .int .i64 y][j]? = some u → (W.alloc (.cells #[.int .i64 x, .int .i64 y] T)).cell? ((⟨W.heap.size, 0, none⟩ : Addr).add j) = some u := by
  intro j u hj
  match j, hj with
  | 0, hj => simp at hj; subst hj; simp [Addr.add]
  | 1, hj => simp at hj; subst hj; simp [Addr.add]
theorem two_one (x y : Int) : ∀ u ∈ [Value.int .i64 x, .int .i64 y], u.oneCell' = true := by
  intro u hu
  simp at hu
  rcases hu with rfl | rfl <;> rfl

/-- What BoxHas returns. -/
def dup (x : Int) : Int × Int := (x, x)
def boxHasS (l : List (Int × Int)) (xs : List Int) : Bool := decide (xs.length = l.length ∧ checkB l = 0 ∧ ∀ k, k < l.length → hasS (l.getD k (0, 0)) (xs.getD k 0) = true)
theorem boxHas_all {l : List (Int × Int)} {xs : List Int} (h1 : xs.length = l.length) (h2 : checkB l = 0) : allS hasP l (xs.map dup) = boxHasS l xs := by
  have e1 : ∀ k, k < l.length → hasP (l.getD k (0, 0)) ((xs.map dup).getD k (0, 0)) = hasS (l.getD k (0, 0)) (xs.getD k 0) := by
    intro k hk
    have hk2 : k < xs.length := by omega
    unfold hasP
    congr 1
    simp [List.getD, List.getElem?_map, List.getElem?_eq_getElem hk2, dup]
  unfold allS boxHasS
  rw [decide_eq_decide]
  constructor
  · rintro ⟨q1, q2, q3, q4⟩
    exact ⟨h1, h2, fun k hk => by rw [← e1 k hk]; exact q4 k hk⟩
  · rintro ⟨_, _, q⟩
    refine ⟨h2, ?_, by simp [h1], fun k hk => by rw [e1 k hk]; exact q k hk⟩
    have h8 := (checkB_ok.1 h2).1
    refine checkB_ok.2 ⟨by simp; omega, ?_⟩
    rw [List.all_eq_true]
    intro s hs
    obtain ⟨x, hx, rfl⟩ := List.mem_map.1 hs
    obtain ⟨k, hk, rfl⟩ := List.getElem_of_mem hx
    have := q k (by omega)
    rw [List.getD_eq_getElem?_getD (l := xs), List.getElem?_eq_getElem hk] at this
    simp only [Option.getD_some] at this
    unfold hasS at this
    simp only [Bool.and_eq_true, decide_eq_true_eq] at this
    have ho := okS_bd this.1.1
    exact okS_mk (by omega) (by omega) (by omega)

set_option maxHeartbeats 1000000 in
set_option maxRecDepth 20000 in
theorem BoxHas_row (v p : Value) (l : List (Int × Int)) (xs : List Int) (w : World) (hl : l.length ≤ 1000000) (hx : xs.length ≤ 1000000) (hv : SpRow v l w) (hp : IntRow p xs w) :
    Calls Try.prog 21 #[v, p] w fun e w' => e = .returned (.bool (boxHasS l xs)) ∧ Below w.heap.size w w' := by
  have V := Lib.hid (fun w h => CheckBox_row v l w (by omega) h)
  have A := Lib.hid (fun u w h1 h2 => all_has v u l (xs.map dup) w (by omega) (by simp; omega) h1 h2)
  have HV := Lib.hid hv
  obtain ⟨a, c, rfl, -⟩ := hv
  obtain ⟨b, d, rfl, hp⟩ := hp
  have HP := Lib.hid hp
  clear hp
  have hr1 : Hid (xs.length = l.length → checkB l = 0 → allS hasP l (xs.map dup) = boxHasS l xs) := boxHas_all
  have hr2 : Hid (¬ (xs.length = l.length ∧ checkB l = 0) → boxHasS l xs = false) := fun h => decide_eq_false (fun q => h ⟨q.1, q.2.1⟩)
  generalize boxHasS l xs = r at *
  generalize allS hasP l (xs.map dup) = r' at *
  generalize checkB l = z at *
  obtain ⟨i0, hi, hz0, hz1, hz2⟩ := info_parts infoSp
  go_enter Try.func21, Try.ntmps21
  go_wp2_with fail
  go_loopw [5, 10] (fun u i wr => ∃ k : Nat, k ≤ xs.length ∧ i = .int .i64 k ∧ Hid (SpOwn wr w.heap.size u ((xs.take k).map dup)) ∧ Below w.heap.size w wr) (fun _ i _ => xs.length - (intOf i).toNat)
  case atStart => exact ⟨0, by omega, rfl, by simpa [Hid] using SpOwn.nil, Below.refl _ _⟩
  case round =>
    obtain ⟨k, hk, rfl, HO, kB⟩ := hrel
    by_cases hlt : k < xs.length
    · obtain ⟨b0, o0, rfl, e1⟩ := (HP.out.step kB).at_ hlt
      have hnext : Hid (∀ (u : Value) (W : World), W.ownsRow w.heap.size 40 2 u (((xs.take k).map dup).length + 1) (flatS ((xs.take k).map dup) ++ [.int .i64 xs[k], .int .i64 xs[k]]) → SpOwn W w.heap.size u ((xs.take (k + 1)).map dup)) := fun u W h => by
        have := SpOwn.more h
        rw [List.take_succ_eq_append_getElem hlt, List.map_append]
        exact this
      have hkl : Hid (((xs.take k).map dup).length = k) := by unfold Hid; simp; omega
      generalize (xs.take k).map dup = L at *
      generalize xs[k] = x at *
      go_wp2_with (at_builtin; refine wpList_append_own _ rfl _ _ 47 rfl (w.heap.size) 40 i0 (.agg #[.int .i64 0, .int .i64 0]) 2 16 Try.underlying47 hi hz0 hz1 hz2 rfl (by decide) _ _ _ rfl (World.ownsRow.alloc HO.out _) ⟨wr.heap.size, 0, none⟩ 1 1 [.int .i64 x, .int .i64 x] rfl rfl ?c1 ?c2 ?c3 ?c4 ?c5 ?_)
      case c1 =>
        intro j u hj
        match j, hj with
        | 0, hj => simp at hj; subst hj; simp [Addr.add]
        | 1, hj => simp at hj; subst hj; simp [Addr.add]
      case c2 => intro u hu; simp at hu; subst hu; rfl
      case c3 => have := hkl.out; unfold maxLen; omega
      case c4 => have := hkl.out; omega
      case c5 => have := kB.size; simp; omega
      · intro v' w1 hown hgrow _
        have hO2 := hnext.out v' w1 hown
        have kB2 : Below w.heap.size w w1 := (bAlloc kB _).grown hgrow (by have := kB.size; simp; omega) (own_ge HO.out)
        clear hown hgrow HO hnext hkl
        go_wp2
        go_roundw
        case rel => exact ⟨k + 1, by omega, by go_num, hO2, kB2⟩
        case measure => (simp [intOf]; omega)
    · obtain rfl : k = xs.length := by omega
      have HS : Hid (SpRow u5 (xs.map dup) wr) := by have := SpOwn.row HO.out; rwa [List.take_length] at this
      have HV2 := Lib.hid (HV.out.step kB)
      clear HV HP HO
      by_cases h1 : xs.length = l.length
      · by_cases h2 : z = 0
        · have hr := hr1.out h1 h2
          subst h2
          subst hr
          rw [h1]
          clear hr1 hr2 h1
          go_wp2_with (first | (go_at_call 19; refine (V.out _ HV2.out).mono ?_; rintro e w1 ⟨rfl, hb1⟩; have hx := HV2.out.step hb1; have hy := HS.out.step hb1; clear HV2 HS; have HV2 := Lib.hid hx; have HS := Lib.hid hy; clear hx hy) | (go_at_call 61; refine (A.out _ _ HV2.out HS.out).mono ?_; rintro e w2 ⟨rfl, hb2⟩))
          go_ret
          exact ⟨rfl, (by repeat' (first | exact Below.refl _ _ | assumption | apply bDrewN | apply bDrew | apply bAlloc | (refine bSet ?_ ?_ _) | (refine bStep ?_ (by assumption)) | omega | (simp <;> omega)))⟩
        · obtain rfl := hr2.out (fun q => h2 q.2)
          rw [h1]
          clear hr1 hr2 h1
          go_wp2_with (go_at_call 19; refine (V.out _ HV2.out).mono ?_; rintro e w1 ⟨rfl, hb1⟩)
          go_ret
          exact ⟨rfl, (by repeat' (first | exact Below.refl _ _ | assumption | apply bDrewN | apply bDrew | apply bAlloc | (refine bSet ?_ ?_ _) | (refine bStep ?_ (by assumption)) | omega | (simp <;> omega)))⟩
      · obtain rfl := hr2.out (fun q => h1 q.1)
        have h1' : (xs.length : Int) ≠ (l.length : Int) := by omega
        clear hr1 hr2 h1
        go_wp2_with (go_at_call 19; refine (V.out _ HV2.out).mono ?_; rintro e w1 ⟨rfl, hb1⟩)
        go_ret
        exact ⟨rfl, (by repeat' (first | exact Below.refl _ _ | assumption | apply bDrewN | apply bDrew | apply bAlloc | (refine bSet ?_ ?_ _) | (refine bStep ?_ (by assumption)) | omega | (simp <;> omega)))⟩

set_option maxHeartbeats 1000000 in
theorem BoxInside_row (v u : Value) (l m : List (Int × Int)) (w : World) (hl : l.length ≤ 1000000) (hm : m.length ≤ 1000000) (hv : SpRow v l w) (hu : SpRow u m w) :
    Calls Try.prog 23 #[v, u] w fun e w' => e = .returned (.bool (allS insideS l m)) ∧ Below w.heap.size w w' := by
  have A := Lib.hid (fun w h1 h2 => all_ins v u l m w (by omega) (by omega) h1 h2)
  have HV := Lib.hid hv
  have HU := Lib.hid hu
  clear hv hu
  generalize allS insideS l m = r at *
  go_enter Try.func23, Try.ntmps23
  go_wp2_with (go_at_call 61; refine (A.out _ HV.out HU.out).mono ?_; rintro e w2 ⟨rfl, hb2⟩)
  go_ret
  exact ⟨rfl, (by repeat' (first | exact Below.refl _ _ | assumption | apply bDrewN | apply bDrew | apply bAlloc | (refine bSet ?_ ?_ _) | (refine bStep ?_ (by assumption)) | omega | (simp <;> omega)))⟩

end Go.Proofs.Ytngnehlmbipabaa
