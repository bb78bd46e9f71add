/-
  The walk of the law QuantityHalves.
-/
import Derived.Test.YtjnllfebeeiilaaHp
import Derived.Test.YtjnllfebeeiilaaTwo
set_option linter.unusedSimpArgs false
set_option linter.unusedVariables false
namespace Go.Proofs.Ytjnllfebeeiilaa
open Go.RowKit

def flatI (xs : List Int) : List Value := xs.map (Value.int .i64)
/-- The slice v owns the numbers xs, in a block from B on. -/
def IntOwn (W : World) (B : Nat) (v : Value) (xs : List Int) : Prop := W.ownsRow B 2 1 v xs.length (flatI xs)
theorem IntOwn.nil {W : World} {B : Nat} : IntOwn W B (.slice none 0 0) [] := ⟨rfl, Or.inl ⟨rfl, rfl⟩⟩
theorem own_step {W w2 : World} {B e s : Nat} {v : Value} {n : Nat} {xs : List Value} (h : W.ownsRow B e s v n xs) (hb : Below W.heap.size W w2) : w2.ownsRow B e s v n xs := by
  obtain ⟨h1, h2⟩ := h
  refine ⟨h1, ?_⟩
  rcases h2 with h2 | ⟨g, cap, cur, q1, q2, q3, q4⟩
  · exact Or.inl h2
  · exact Or.inr ⟨g, cap, cur, q1, q2, blk_step q3 hb, q4⟩
theorem IntOwn.step {W w2 : World} {B : Nat} {v : Value} {xs : List Int} (h : IntOwn W B v xs) (hb : Below W.heap.size W w2) : IntOwn w2 B v xs := own_step h hb
theorem IntOwn.row {W : World} {B : Nat} {v : Value} {xs : List Int} (h : IntOwn W B v xs) : IntRow v xs W := by
  obtain ⟨h1, h2⟩ := h
  rcases h2 with ⟨rfl, h2⟩ | ⟨g, cap, cur, rfl, q2, q3, q4, q5, q6, q7⟩
  · exact ⟨none, 0, by rw [h2], fun hn => absurd (List.length_eq_zero_iff.1 h2) hn⟩
  · refine ⟨_, _, rfl, fun _ => ⟨g, 0, rfl, blk_lt q3, fun j hj => ?_⟩⟩
    have hf : (flatI xs)[j]? = some (.int .i64 (xs.getD j 0)) := by simp [flatI, List.getD_eq_getElem?_getD, List.getElem?_eq_getElem hj]
    rw [← q7, List.getElem?_take_of_lt (by omega)] at hf
    exact blk_cell q3 (by simpa using hf)
theorem IntOwn.more {W : World} {B : Nat} {v : Value} {xs : List Int} {x : Int} (h : W.ownsRow B 2 1 v (xs.length + 1) (flatI xs ++ [.int .i64 x])) : IntOwn W B v (xs ++ [x]) := by
  unfold IntOwn flatI
  rw [List.map_append, List.length_append]
  exact h
theorem infoI : (Try.prog.info? 2).map (fun i => (i.zero, i.size, i.bytes)) = some (some (.int .i64 0), 1, 8) := by kernel_rfl
theorem one_cells (W : World) (x : Int) (T : TypeId) : ∀ j u, [Value.int .i64 x][j]? = some u → (W.alloc (.cells #[.int .i64 x] T)).cell? ((⟨W.heap.size, 0, none⟩ : Addr).add j) = some u := by
  intro j u hj
  match j, hj with
  | 0, hj => simp at hj; subst hj; simp [Addr.add]
theorem one_one (x : Int) : ∀ u ∈ [Value.int .i64 x], u.oneCell' = true := by
  intro u hu
  simp at hu
  rw [hu]; rfl
/-- A row of spans and a row of numbers never lie in one block. -/
theorem own_apart {W : World} {B : Nat} {v u : Value} {n m : Nat} {xs ys : List Value} (h : W.ownsRow B 27 2 v n xs) (g : W.ownsRow B 2 1 u m ys) : v.ownBlock = none ∨ v.ownBlock ≠ u.ownBlock := by
  rcases h.2 with ⟨rfl, _⟩ | ⟨b1, cap, cur, rfl, q2, q3, _⟩
  · exact Or.inl rfl
  · right
    rcases g.2 with ⟨rfl, _⟩ | ⟨b2, cap2, cur2, rfl, r2, r3, _⟩
    · intro e; cases e
    · intro e
      simp only [Value.ownBlock, Option.some.injEq] at e
      rw [e, r3] at q3
      simp only [Option.some.injEq, Obj.cells.injEq] at q3
      exact absurd q3.2.1 (by decide)
theorem own_apart' {W : World} {B : Nat} {v u : Value} {n m : Nat} {xs ys : List Value} (h : W.ownsRow B 27 2 v n xs) (g : W.ownsRow B 2 1 u m ys) : u.ownBlock = none ∨ u.ownBlock ≠ v.ownBlock := by
  rcases own_apart h g with e | e
  · cases hu : u.ownBlock with
    | none => exact Or.inl rfl
    | some b => exact Or.inr (by rw [e]; simp)
  · exact Or.inr (fun c => e c.symm)

abbrev Sm3 := Int × Int × Int
def sm0 : Sm3 := (0, 0, 0)
/-- A slice of small spans. -/
def SmAt (a : Option Addr) (l : List Sm3) (W : World) : Prop := l ≠ [] → ∃ b off, a = some ⟨b, off, none⟩ ∧ b < W.heap.size ∧ ∀ k, k < l.length →
  W.cell? ⟨b, off + k * 3, none⟩ = some (.int .i16 (l.getD k sm0).1) ∧ W.cell? ⟨b, off + k * 3 + 1, none⟩ = some (.int .i16 (l.getD k sm0).2.1) ∧ W.cell? ⟨b, off + k * 3 + 2, none⟩ = some (.int .u16 (l.getD k sm0).2.2)
def SmOk (s : Sm3) : Prop := -32768 ≤ s.1 ∧ s.1 ≤ 32767 ∧ -32768 ≤ s.2.1 ∧ s.2.1 ≤ 32767 ∧ 0 ≤ s.2.2 ∧ s.2.2 ≤ 65535
def spansOf (l : List Sm3) : List (Int × Int) := l.map fun s => spanOf s.1 s.2.1
def numsOf (l : List Sm3) : List Int := l.map fun s => numOf s.1 s.2.1 s.2.2
theorem spansOf_len (l : List Sm3) : (spansOf l).length = l.length := by simp [spansOf]
theorem numsOf_len (l : List Sm3) : (numsOf l).length = l.length := by simp [numsOf]
theorem spansOf_take (l : List Sm3) (k : Nat) (hk : k < l.length) : spansOf (l.take (k + 1)) = spansOf (l.take k) ++ [spanOf (l.getD k sm0).1 (l.getD k sm0).2.1] := by
  have e : l.getD k sm0 = l[k] := by simp [List.getD_eq_getElem?_getD, List.getElem?_eq_getElem hk]
  rw [List.take_succ_eq_append_getElem hk, e]
  unfold spansOf
  rw [List.map_append]
  rfl
theorem numsOf_take (l : List Sm3) (k : Nat) (hk : k < l.length) : numsOf (l.take (k + 1)) = numsOf (l.take k) ++ [numOf (l.getD k sm0).1 (l.getD k sm0).2.1 (l.getD k sm0).2.2] := by
  have e : l.getD k sm0 = l[k] := by simp [List.getD_eq_getElem?_getD, List.getElem?_eq_getElem hk]
  rw [List.take_succ_eq_append_getElem hk, e]
  unfold numsOf
  rw [List.map_append]
  rfl
theorem spansOf_get {l : List Sm3} {k : Nat} (hk : k < l.length) : (spansOf l).getD k (0, 0) = spanOf (l.getD k sm0).1 (l.getD k sm0).2.1 := by
  simp [spansOf, List.getD_eq_getElem?_getD, List.getElem?_eq_getElem hk]
theorem numsOf_get {l : List Sm3} {k : Nat} (hk : k < l.length) : (numsOf l).getD k 0 = numOf (l.getD k sm0).1 (l.getD k sm0).2.1 (l.getD k sm0).2.2 := by
  simp [numsOf, List.getD_eq_getElem?_getD, List.getElem?_eq_getElem hk]
theorem take_get {l : List Sm3} {n k : Nat} (hk : k < n) : (l.take n).getD k sm0 = l.getD k sm0 := by
  simp [List.getD_eq_getElem?_getD, List.getElem?_take_of_lt hk]

/-- What the law holds on to. -/
def HaSt (x y b z p : Value) (low high L : List (Int × Int)) (xs : List Int) (W : World) : Prop := SpRow x low W ∧ SpRow y high W ∧ SpRow b L W ∧ SpRow z L W ∧ IntRow p xs W
theorem HaSt.step {x y b z p : Value} {low high L : List (Int × Int)} {xs : List Int} {W w2 : World} (h : HaSt x y b z p low high L xs W) (hb : Below W.heap.size W w2) : HaSt x y b z p low high L xs w2 :=
  ⟨h.1.step hb, h.2.1.step hb, h.2.2.1.step hb, h.2.2.2.1.step hb, h.2.2.2.2.step hb⟩
theorem HaSt.hx {x y b z p : Value} {low high L : List (Int × Int)} {xs : List Int} {W : World} (h : HaSt x y b z p low high L xs W) : SpRow x low W := h.1
theorem HaSt.hy {x y b z p : Value} {low high L : List (Int × Int)} {xs : List Int} {W : World} (h : HaSt x y b z p low high L xs W) : SpRow y high W := h.2.1
theorem HaSt.hb {x y b z p : Value} {low high L : List (Int × Int)} {xs : List Int} {W : World} (h : HaSt x y b z p low high L xs W) : SpRow b L W := h.2.2.1
theorem HaSt.hz {x y b z p : Value} {low high L : List (Int × Int)} {xs : List Int} {W : World} (h : HaSt x y b z p low high L xs W) : SpRow z L W := h.2.2.2.1
theorem HaSt.hp {x y b z p : Value} {low high L : List (Int × Int)} {xs : List Int} {W : World} (h : HaSt x y b z p low high L xs W) : IntRow p xs W := h.2.2.2.2

set_option maxHeartbeats 4000000 in
set_option maxRecDepth 20000 in
theorem halves_core (a : Option Addr) (c : Nat) (l : List Sm3) (i : Int) (w : World) (hl : l.length ≤ 9223372036854775807) (hb : ∀ k, k < l.length → SmOk (l.getD k sm0)) (hA : SmAt a l w) (i1 : 0 ≤ i) (i2 : i ≤ 255) :
    Calls Try.prog 11 #[.slice a l.length c, .int .u8 i] w fun e w' => e = .returned (.bool true) ∧ Below w.heap.size w w' := by
  have HA := Lib.hid hA
  have HB := Lib.hid hb
  clear hA hb
  obtain ⟨i0, hi, hz0, hz1, hz2⟩ := info_parts infoSp
  obtain ⟨j0, hj, hy0, hy1, hy2⟩ := info_parts infoI
  go_enter Try.func11, Try.ntmps11
  go_wp2_with fail
  go_loopw [5, 6, 7] (fun b p k wr => ∃ n : Nat, n ≤ l.length ∧ n ≤ 8 ∧ k = .int .i64 n ∧ Hid (SpOwn wr w.heap.size b (spansOf (l.take n))) ∧ Hid (IntOwn wr w.heap.size p (numsOf (l.take n))) ∧ Below w.heap.size w wr) (fun _ _ k _ => 8 - (intOf k).toNat)
  case atStart => exact ⟨0, by omega, by omega, rfl, SpOwn.nil, IntOwn.nil, Below.refl _ _⟩
  case round =>
    obtain ⟨n, hn, hn8, rfl, HO, HP, kB⟩ := hrel
    by_cases hlt : n < l.length ∧ n < 8
    · obtain ⟨hlt, hlt8⟩ := hlt
      obtain ⟨b0, o0, rfl, hb0, hc⟩ := HA.out (fun h => by rw [h] at hlt; simp at hlt)
      obtain ⟨e1, e2, e3⟩ := hc n hlt
      have hs := HB.out n hlt
      have HX := Lib.hid (spansOf_take l n hlt)
      have HY := Lib.hid (numsOf_take l n hlt)
      have hlen : Hid ((spansOf (l.take n)).length = n ∧ (numsOf (l.take n)).length = n) := by
        unfold Hid; rw [spansOf_len, numsOf_len, List.length_take]; omega
      generalize l.getD n sm0 = s at *
      obtain ⟨s1, s2, s3⟩ := s
      obtain ⟨b1, b2, b3, b4, b5, b6⟩ := hs
      dsimp only at *
      have S := Lib.hid (fun w => span_any s1 s2 s3 w b1 b2 b3 b4)
      have N := Lib.hid (fun w => number_small s1 s2 s3 w b1 b2 b3 b4 b5 b6)
      have hsp : spanOf s1 s2 = (s1, s1 + lenOf s2) := rfl
      rw [hsp] at HX S
      dsimp only at S
      generalize s1 + lenOf s2 = t1 at *
      generalize numOf s1 s2 s3 = t2 at *
      generalize spansOf (l.take n) = L at *
      generalize numsOf (l.take n) = X at *
      clear hc hsp HB
      have E1 := Lib.hid e1
      have E2 := Lib.hid e2
      have E3 := Lib.hid e3
      clear e1 e2 e3
      have e1 := (kB.cell (p := ⟨b0, o0 + n * 3, none⟩) hb0).trans E1.out
      have e2 := (kB.cell (p := ⟨b0, o0 + n * 3 + 1, none⟩) hb0).trans E2.out
      have e3 := (kB.cell (p := ⟨b0, o0 + n * 3 + 2, none⟩) hb0).trans E3.out
      go_wp2_with (first | (go_at_call 13; refine (S.out _).mono ?_; rintro e w1 ⟨rfl, hb1⟩; have hO1 := Lib.hid (HO.out.step hb1); have hP1 := Lib.hid (HP.out.step hb1); have kB1 := bStep kB hb1; clear HO HP e1 e2 e3 kB) | (at_builtin; refine wpList_append_own _ rfl (.tmp 28) (.tmp 34) 68 rfl (w.heap.size) 27 i0 (.agg #[.int .i64 0, .int .i64 0]) 2 16 Try.underlying68 hi hz0 hz1 hz2 rfl (by decide) _ _ _ rfl (World.ownsRow.alloc hO1.out _) ⟨w1.heap.size, 0, none⟩ 1 1 [.int .i64 s1, .int .i64 t1] rfl rfl (two_cells _ _ _ _) (two_one _ _) (by have := hlen.out; unfold maxLen; omega) (by have := hlen.out; omega) (by have := kB1.size; simp; omega) ?_; intro v' w2 hown hgrow hnil; have hO2 := Lib.hid (SpOwn.more hown); have hP2 := Lib.hid (World.ownsRow.kept (World.ownsRow.alloc hP1.out _) hgrow (own_apart' hO1.out hP1.out)); have kB2 : Below w.heap.size w w2 := (bAlloc kB1 _).grown hgrow (by have := kB1.size; simp; omega) (own_ge hO1.out); have e1 := (kB2.cell (p := ⟨b0, o0 + n * 3, none⟩) hb0).trans E1.out; have e2 := (kB2.cell (p := ⟨b0, o0 + n * 3 + 1, none⟩) hb0).trans E2.out; have e3 := (kB2.cell (p := ⟨b0, o0 + n * 3 + 2, none⟩) hb0).trans E3.out; clear hown hgrow hnil hO1 hP1 kB1 hb1) | (go_at_call 16; refine (N.out _).mono ?_; rintro e w3 ⟨rfl, hb3⟩; have hO3 := Lib.hid (SpOwn.step hO2.out hb3); have hP3 := Lib.hid (own_step hP2.out hb3); have kB3 := bStep kB2 hb3; clear hO2 hP2 e1 e2 e3 kB2) | (at_builtin; refine wpList_append_own _ rfl (.tmp 36) (.tmp 42) 33 rfl (w.heap.size) 2 j0 (.int .i64 0) 1 8 Try.underlying33 hj hy0 hy1 hy2 rfl (by decide) _ _ _ rfl (World.ownsRow.alloc hP3.out _) ⟨w3.heap.size, 0, none⟩ 1 1 [.int .i64 t2] rfl rfl (one_cells _ _ _) (one_one _) (by have := hlen.out; unfold maxLen; omega) (by have := hlen.out; omega) (by have := kB3.size; simp; omega) ?_; intro u' w4 hown hgrow hnil; have hP4 := Lib.hid (IntOwn.more hown); have hO4 := Lib.hid (World.ownsRow.kept (World.ownsRow.alloc hO3.out _) hgrow (own_apart hO3.out hP3.out)); have kB4 : Below w.heap.size w w4 := (bAlloc kB3 _).grown hgrow (by have := kB3.size; simp; omega) (own_ge hP3.out); clear hown hgrow hnil hO3 hP3 kB3 hb3))
      go_roundw
      case rel => exact ⟨n + 1, by omega, by omega, by go_num, by rw [HX.out]; exact hO4.out, by rw [HY.out]; exact hP4.out, kB4⟩
      case measure => (simp [intOf]; omega)
    · have hex : l.length ≤ n ∨ (n < l.length ∧ 8 ≤ n) := by omega
      clear hlt
      have hLn := Lib.hid (show (spansOf (l.take n)).length = n ∧ (numsOf (l.take n)).length = n by rw [spansOf_len, numsOf_len, List.length_take]; omega)
      have HF : Hid (∀ k, k < n → ∃ lo len at_, SmOk (lo, len, at_) ∧ (spansOf (l.take n)).getD k (0, 0) = spanOf lo len ∧ (numsOf (l.take n)).getD k 0 = numOf lo len at_) := by
        intro k hk
        have hkn : k < (l.take n).length := by rw [List.length_take]; omega
        refine ⟨(l.getD k sm0).1, (l.getD k sm0).2.1, (l.getD k sm0).2.2, HB.out k (by omega), ?_, ?_⟩
        · rw [spansOf_get hkn, take_get hk]
        · rw [numsOf_get hkn, take_get hk]
      have HO := Lib.hid (SpOwn.row HO.out)
      have HP := Lib.hid (IntOwn.row HP.out)
      clear HA HB
      generalize spansOf (l.take n) = L at *
      generalize numsOf (l.take n) = X at *
      obtain ⟨ab, cb, hbv, hAt⟩ := id HO.out
      rw [hLn.out.1] at hbv
      subst hbv
      rcases Nat.eq_zero_or_pos n with hz | hz
      · subst hz
        have hq : l.length ≤ 0 := by omega
        clear hex hn8
        obtain rfl : L = [] := List.length_eq_zero_iff.1 hLn.out.1
        obtain rfl : X = [] := List.length_eq_zero_iff.1 hLn.out.2
        have CW := Lib.hid (fun w h => Widest_nil (.slice ab 0 cb) w h)
        have CH := Lib.hid (fun w h1 h2 => BoxHas_row (.slice ab 0 cb) u6 [] [] w (by simp) (by simp) h1 h2)
        rw [show boxHasS [] [] = true from by decide] at CH
        clear hLn HF hAt
        go_wp2_with (first | (go_at_call 56; refine (CW.out _ HO.out).mono ?_; rintro e w1 ⟨rfl, hb1⟩; have hx := HO.out.step hb1; have hy := HP.out.step hb1; clear HO HP; have HO := Lib.hid hx; have HP := Lib.hid hy; clear hx hy) | (go_at_call 57; refine (CH.out _ HO.out HP.out).mono ?_; rintro e w2 ⟨rfl, hb2⟩) | (go_at_call 18; refine (works_any _).mono ?_; rintro e w3 ⟨rfl, hb3⟩))
        go_ret
        exact ⟨rfl, (by repeat' (first | exact Below.refl _ _ | assumption | apply bDrewN | apply bDrew | apply bAlloc | (refine bSet ?_ ?_ _) | (refine bStep ?_ (by assumption)) | omega | (simp <;> omega)))⟩
      · rcases hex with hq | ⟨hq, hq8⟩
        all_goals
          have hL8 : L.length ≤ 8 := by rw [hLn.out.1]; exact hn8
          have hok : ∀ k, k < L.length → okS (L.getD k (0, 0)) = true := by
            intro k hk
            obtain ⟨lo, len, at_, hs, h1, h2⟩ := HF.out k (by rw [← hLn.out.1]; exact hk)
            obtain ⟨b1, b2, b3, b4, b5, b6⟩ := hs
            rw [h1]
            exact (SmS_of b1 b2 b3 b4).ok
          have hin : ∀ k, k < L.length → (L.getD k (0, 0)).1 ≤ X.getD k 0 ∧ X.getD k 0 ≤ (L.getD k (0, 0)).2 := by
            intro k hk
            obtain ⟨lo, len, at_, hs, h1, h2⟩ := HF.out k (by rw [← hLn.out.1]; exact hk)
            obtain ⟨b1, b2, b3, b4, b5, b6⟩ := hs
            rw [h1, h2]
            exact numOf_bd b3 b4
          have r1 := Int.emod_nonneg i (show (n : Int) ≠ 0 by omega)
          have r2 := Int.emod_lt_of_pos i (show 0 < (n : Int) by omega)
          obtain ⟨k, hk⟩ : ∃ k : Nat, i % (n : Int) = (k : Int) := ⟨(i % (n : Int)).toNat, by omega⟩
          have hkn : k < n := by omega
          have hkL : k < L.length := by rw [hLn.out.1]; exact hkn
          have hXL : X.length = L.length := by rw [hLn.out.1, hLn.out.2]
          have hLw : L.length ≤ 1000000 := by omega
          have HV := Lib.hid (fun w h => Halve_row (.slice ab n cb) L (k : Int) w hLw (by omega) (by omega) h)
          obtain ⟨b1, o1, rfl, hc⟩ := hAt (fun h => by rw [h] at hkL; simp at hkL)
          obtain ⟨q1, q2⟩ := hc.2 k hkL
          rw [hk] at r1 r2
          clear HF hc
          by_cases he : (L.getD k (0, 0)).1 = (L.getD k (0, 0)).2
          · have h5 : halveS L k = (([], []), 5) := by
              unfold halveS
              rw [if_neg (by simp [checkB_of hL8 hok]), if_neg (by omega), Int.toNat_natCast, if_pos he]
            rw [h5] at HV
            generalize L.getD k (0, 0) = s at *
            obtain ⟨s1, s2⟩ := s
            dsimp only at *
            subst he
            clear h5 hok hin hkL hXL hLn hL8 hLw HP
            go_upto_region 13 with (go_at_call 58; refine (HV.out _ HO.out).mono ?_; rintro e w1 ⟨x, y, rfl, -, -, hb1⟩; have g1 := cell_step q1 hb1; have g2 := cell_step q2 hb1; clear q1 q2)
            go_quiet (fail)
            go_wp2_with (go_at_call 18; refine (works_any _).mono ?_; rintro e w3 ⟨rfl, hb3⟩)
            go_ret
            exact ⟨rfl, (by repeat' (first | exact Below.refl _ _ | assumption | apply bDrewN | apply bDrew | apply bAlloc | (refine bSet ?_ ?_ _) | (refine bStep ?_ (by assumption)) | omega | (simp <;> omega)))⟩
          · obtain ⟨low, high, H⟩ := halves_law hL8 hok hkL he hXL hin
            rw [H.halve] at HV
            have l1 : low.length ≤ 1000000 := by rw [H.len1]; exact hLw
            have l2 : high.length ≤ 1000000 := by rw [H.len2]; exact hLw
            have CU := Lib.hid (fun x y w h1 h2 => BoxHull_row x y low high w l1 l2 h1 h2)
            rw [H.hull] at CU
            have CM := Lib.hid (fun x y w h1 h2 => BoxMeet_row x y low high w l1 l2 h1 h2)
            rw [H.meet] at CM
            have CS := Lib.hid (fun x y w h1 h2 => SameBox_row x y L L w hLw hLw h1 h2)
            rw [show decide (L = L) = true from by simp] at CS
            have CI := Lib.hid (fun x y w h1 h2 => BoxInside_row x y low L w l1 hLw h1 h2)
            rw [H.inLow] at CI
            have CJ := Lib.hid (fun x y w h1 h2 => BoxInside_row x y high L w l2 hLw h1 h2)
            rw [H.inHigh] at CJ
            have CA := Lib.hid (fun x y w h1 h2 => BoxHas_row x y low X w l1 (by rw [hXL]; exact hLw) h1 h2)
            have CB := Lib.hid (fun x y w h1 h2 => BoxHas_row x y high X w l2 (by rw [hXL]; exact hLw) h1 h2)
            have h1 := H.one
            have hp2 : boxHasS high X = !boxHasS low X := by
              revert h1
              cases boxHasS low X <;> cases boxHasS high X <;> simp
            rw [hp2] at CB
            generalize boxHasS low X = p1 at *
            generalize (pairsS meetS low high).1 = mt at *
            clear H h1 hp2 l1 l2 hok hin hkL hXL hLn hL8 hLw
            generalize L.getD k (0, 0) = s at *
            obtain ⟨s1, s2⟩ := s
            dsimp only at *
            cases p1
            all_goals
              go_upto_region 13 with (go_at_call 58; refine (HV.out _ HO.out).mono ?_; rintro e w1 ⟨x, y, rfl, hx, hy, hb1⟩; have g1 := cell_step q1 hb1; have g2 := cell_step q2 hb1; have HS := Lib.hid (show HaSt x y (.slice (some ⟨b1, o1, none⟩) n cb) (.slice (some ⟨b1, o1, none⟩) n cb) u6 low high L X w1 from ⟨hx, hy, HO.out.step hb1, HO.out.step hb1, HP.out.step hb1⟩); clear q1 q2 HO HP hx hy)
              go_quiet (fail)
              clear HV
              go_wp2_with (first | (go_at_call 59; refine (CU.out x y _ (HS.out.step (bDrewN (Below.refl _ _))).1 (HS.out.step (bDrewN (Below.refl _ _))).2.1).mono ?_; rintro e w2 ⟨z, rfl, hz, hb2⟩; have hN := (HS.out.step (bDrewN (Below.refl _ _))).step hb2; clear HS; have HS := Lib.hid (show HaSt x y (.slice (some ⟨b1, o1, none⟩) n cb) z u6 low high L X w2 from ⟨hN.1, hN.2.1, hN.2.2.1, hz, hN.2.2.2.2⟩); clear hN hz) | (go_at_call 60; refine (CM.out x y _ HS.out.1 HS.out.2.1).mono ?_; rintro e w3 ⟨z', rfl, -, hb3⟩; have hN := HS.out.step hb3; clear HS; have HS := Lib.hid hN; clear hN) | (go_at_call 61; refine (CS.out _ _ _ HS.out.hz HS.out.hb).mono ?_; rintro e w4 ⟨rfl, hb4⟩; have hN := HS.out.step hb4; clear HS; have HS := Lib.hid hN; clear hN) | (go_at_call 62; (with_reducible refine (CI.out x _ _ HS.out.hx HS.out.hb).mono ?_); rintro e w5 ⟨rfl, hb5⟩; have hN := HS.out.step hb5; clear HS; have HS := Lib.hid hN; clear hN) | (go_at_call 62; (with_reducible refine (CJ.out y _ _ HS.out.hy HS.out.hb).mono ?_); rintro e w6 ⟨rfl, hb6⟩; have hN := HS.out.step hb6; clear HS; have HS := Lib.hid hN; clear hN) | (go_at_call 57; (with_reducible refine (CA.out x _ _ HS.out.hx HS.out.hp).mono ?_); rintro e w7 ⟨rfl, hb7⟩; have hN := HS.out.step hb7; clear HS; have HS := Lib.hid hN; clear hN) | (go_at_call 57; (with_reducible refine (CB.out y _ _ HS.out.hy HS.out.hp).mono ?_); rintro e w8 ⟨rfl, hb8⟩) | (go_at_call 18; refine (works_any _).mono ?_; rintro e w9 ⟨rfl, hb9⟩))
              go_ret
              exact ⟨rfl, (by repeat' (first | exact Below.refl _ _ | assumption | apply bDrewN | apply bDrew | apply bAlloc | (refine bSet ?_ ?_ _) | (refine bStep ?_ (by assumption)) | omega | (simp <;> omega)))⟩

end Go.Proofs.Ytjnllfebeeiilaa
