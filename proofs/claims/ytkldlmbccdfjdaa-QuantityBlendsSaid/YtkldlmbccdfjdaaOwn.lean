/-
  Rows of spans that a function has made itself by append.
-/
import Derived.Test.YtkldlmbccdfjdaaRow
import Derived.OwnWalk
set_option linter.unusedSimpArgs false
set_option linter.unusedVariables false
namespace Go.Proofs.Ytkldlmbccdfjdaa
open Go.RowKit

def flatS (l : List (Int × Int)) : List Value := l.flatMap fun s => [.int .i64 s.1, .int .i64 s.2]
theorem flatS_cons (s : Int × Int) (l : List (Int × Int)) : flatS (s :: l) = .int .i64 s.1 :: .int .i64 s.2 :: flatS l := rfl
theorem flatS_len (l : List (Int × Int)) : (flatS l).length = l.length * 2 := by
  induction l with
  | nil => rfl
  | cons s l ih => rw [flatS_cons]; simp [ih]; omega
theorem flatS_get (l : List (Int × Int)) : ∀ k, k < l.length → (flatS l)[k * 2]? = some (.int .i64 (l.getD k (0, 0)).1) ∧ (flatS l)[k * 2 + 1]? = some (.int .i64 (l.getD k (0, 0)).2) := by
  induction l with
  | nil => intro k hk; simp at hk
  | cons s l ih =>
    intro k hk
    rw [flatS_cons]
    cases k with
    | zero => exact ⟨rfl, rfl⟩
    | succ k =>
      have := ih k (by simp at hk; omega)
      have e1 : (k + 1) * 2 = k * 2 + 1 + 1 := by omega
      rw [e1]
      simp only [List.getElem?_cons_succ, List.getD_cons_succ]
      exact this
theorem flatS_append (l m : List (Int × Int)) : flatS (l ++ m) = flatS l ++ flatS m := by simp [flatS]

/-- The slice v owns the row l, in a block from B on. -/
def SpOwn (W : World) (B : Nat) (v : Value) (l : List (Int × Int)) : Prop := W.ownsRow B 40 2 v l.length (flatS l)
theorem SpOwn.nil {W : World} {B : Nat} : SpOwn W B (.slice none 0 0) [] := ⟨rfl, Or.inl ⟨rfl, rfl⟩⟩
theorem SpOwn.step {W w2 : World} {B : Nat} {v : Value} {l : List (Int × Int)} (h : SpOwn W B v l) (hb : Below W.heap.size W w2) : SpOwn w2 B v l := by
  obtain ⟨h1, h2⟩ := h
  refine ⟨h1, ?_⟩
  rcases h2 with h2 | ⟨g, cap, cur, q1, q2, q3, q4⟩
  · exact Or.inl h2
  · exact Or.inr ⟨g, cap, cur, q1, q2, blk_step q3 hb, q4⟩
theorem SpOwn.at_ {W : World} {B : Nat} {v : Value} {l : List (Int × Int)} (h : SpOwn W B v l) : ∃ a c, v = .slice a l.length c ∧ SpAt a l W := by
  obtain ⟨h1, h2⟩ := h
  rcases h2 with ⟨rfl, h2⟩ | ⟨g, cap, cur, rfl, q2, q3, q4, q5, q6, q7⟩
  · refine ⟨none, 0, by rw [h2], fun hn => ?_⟩
    exact absurd (List.length_eq_zero_iff.1 h2) hn
  · refine ⟨_, _, rfl, fun _ => ⟨g, 0, rfl, blk_lt q3, fun j hj => ?_⟩⟩
    have hf := flatS_get l j hj
    rw [← q7] at hf
    rw [List.getElem?_take_of_lt (by omega), List.getElem?_take_of_lt (by omega)] at hf
    exact ⟨blk_cell q3 (by simpa using hf.1), blk_cell q3 (by simpa using hf.2)⟩
theorem SpOwn.row {W : World} {B : Nat} {v : Value} {l : List (Int × Int)} (h : SpOwn W B v l) : SpRow v l W := h.at_
theorem own_ge {W : World} {B e s : Nat} {v : Value} {n : Nat} {xs : List Value} (h : W.ownsRow B e s v n xs) : ∀ k, v.ownBlock = some k → B ≤ k := by
  intro k hk
  rcases h.2 with ⟨rfl, _⟩ | ⟨g, cap, cur, rfl, q2, _⟩
  · cases hk
  · cases hk; exact q2
theorem SpOwn.more {W : World} {B : Nat} {v : Value} {l : List (Int × Int)} {x y : Int} (h : W.ownsRow B 40 2 v (l.length + 1) (flatS l ++ [.int .i64 x, .int .i64 y])) : SpOwn W B v (l ++ [(x, y)]) := by
  unfold SpOwn
  rw [flatS_append, List.length_append]
  exact h

/-- A slice of whole numbers. -/
def IntAt (a : Option Addr) (xs : List Int) (W : World) : Prop := xs ≠ [] → ∃ b off, a = some ⟨b, off, none⟩ ∧ b < W.heap.size ∧ ∀ k, k < xs.length → W.cell? ⟨b, off + k, none⟩ = some (.int .i64 (xs.getD k 0))
def IntRow (v : Value) (xs : List Int) (W : World) : Prop := ∃ (a : Option Addr) (c : Nat), v = .slice a xs.length c ∧ IntAt a xs W
theorem IntAt.step {a : Option Addr} {xs : List Int} {W w2 : World} (h : IntAt a xs W) (hb : Below W.heap.size W w2) : IntAt a xs w2 := fun hn => by
  obtain ⟨b, off, rfl, h1, h2⟩ := h hn
  exact ⟨b, off, rfl, Nat.lt_of_lt_of_le h1 hb.size, fun k hk => cell_step (h2 k hk) hb⟩
theorem IntRow.step {v : Value} {xs : List Int} {W w2 : World} (h : IntRow v xs W) (hb : Below W.heap.size W w2) : IntRow v xs w2 := by
  obtain ⟨a, c, rfl, h⟩ := h
  exact ⟨a, c, rfl, h.step hb⟩
theorem IntAt.at_ {a : Option Addr} {xs : List Int} {W : World} (h : IntAt a xs W) {k : Nat} (hk : k < xs.length) : ∃ b off, a = some ⟨b, off, none⟩ ∧ W.cell? ⟨b, off + k, none⟩ = some (.int .i64 xs[k]) := by
  obtain ⟨b, off, rfl, _, h2⟩ := h (fun e => by rw [e] at hk; simp at hk)
  have := h2 k hk
  rw [List.getD_eq_getElem?_getD, List.getElem?_eq_getElem hk] at this
  exact ⟨b, off, rfl, this⟩

theorem infoSp : (Try.prog.info? 40).map (fun i => (i.zero, i.size, i.bytes)) = some (some (.agg #[.int .i64 0, .int .i64 0]), 2, 16) := by kernel_rfl

theorem two_cells (W : World) (x y : Int) (T : TypeId) : ∀ j u, [Value.int .i64 x, .int .i64 y][j]? = some u → (W.alloc (.cells #[.int .i64 x, .int .i64 y] T)).cell? ((⟨W.heap.size, 0, none⟩ : Addr).add j) = some u := by
  intro j u hj
  match j, hj with
  | 0, hj => simp at hj; subst hj; simp [Addr.add]
  | 1, hj => simp at hj; subst hj; simp [Addr.add]
theorem two_one (x y : Int) : ∀ u ∈ [Value.int .i64 x, .int .i64 y], u.oneCell' = true := by
  intro u hu
  simp at hu
  rcases hu with rfl | rfl <;> rfl

/-- What BoxHas returns. -/
def dup (x : Int) : Int × Int := (x, x)
def boxHasS (l : List (Int × Int)) (xs : List Int) : Bool := decide (xs.length = l.length ∧ checkB l = 0 ∧ ∀ k, k < l.length → hasS (l.getD k (0, 0)) (xs.getD k 0) = true)
theorem boxHas_all {l : List (Int × Int)} {xs : List Int} (h1 : xs.length = l.length) (h2 : checkB l = 0) : allS hasP l (xs.map dup) = boxHasS l xs := by
  have e1 : ∀ k, k < l.length → hasP (l.getD k (0, 0)) ((xs.map dup).getD k (0, 0)) = hasS (l.getD k (0, 0)) (xs.getD k 0) := by
    intro k hk
    have hk2 : k < xs.length := by omega
    unfold hasP
    congr 1
    simp [List.getD, List.getElem?_map, List.getElem?_eq_getElem hk2, dup]
  unfold allS boxHasS
  rw [decide_eq_decide]
  constructor
  · rintro ⟨q1, q2, q3, q4⟩
    exact ⟨h1, h2, fun k hk => by rw [← e1 k hk]; exact q4 k hk⟩
  · rintro ⟨_, _, q⟩
    refine ⟨h2, ?_, by simp [h1], fun k hk => by rw [e1 k hk]; exact q k hk⟩
    have h8 := (checkB_ok.1 h2).1
    refine checkB_ok.2 ⟨by simp; omega, ?_⟩
    rw [List.all_eq_true]
    intro s hs
    obtain ⟨x, hx, rfl⟩ := List.mem_map.1 hs
    obtain ⟨k, hk, rfl⟩ := List.getElem_of_mem hx
    have := q k (by omega)
    rw [List.getD_eq_getElem?_getD (l := xs), List.getElem?_eq_getElem hk] at this
    simp only [Option.getD_some] at this
    unfold hasS at this
    simp only [Bool.and_eq_true, decide_eq_true_eq] at this
    have ho := okS_bd this.1.1
    exact okS_mk (by omega) (by omega) (by omega)

set_option maxHeartbeats 1000000 in
set_option maxRecDepth 20000 in
theorem BoxHas_row (v p : Value) (l : List (Int × Int)) (xs : List Int) (w : World) (hl : l.length ≤ 1000000) (hx : xs.length ≤ 1000000) (hv : SpRow v l w) (hp : IntRow p xs w) :
    Calls Try.prog 21 #[v, p] w fun e w' => e = .returned (.bool (boxHasS l xs)) ∧ Below w.heap.size w w' := by
  have V := Lib.hid (fun w h => CheckBox_row v l w (by omega) h)
  have A := Lib.hid (fun u w h1 h2 => all_has v u l (xs.map dup) w (by omega) (by simp; omega) h1 h2)
  have HV := Lib.hid hv
  obtain ⟨a, c, rfl, -⟩ := hv
  obtain ⟨b, d, rfl, hp⟩ := hp
  have HP := Lib.hid hp
  clear hp
  have hr1 : Hid (xs.length = l.length → checkB l = 0 → allS hasP l (xs.map dup) = boxHasS l xs) := boxHas_all
  have hr2 : Hid (¬ (xs.length = l.length ∧ checkB l = 0) → boxHasS l xs = false) := fun h => decide_eq_false (fun q => h ⟨q.1, q.2.1⟩)
  generalize boxHasS l xs = r at *
  generalize allS hasP l (xs.map dup) = r' at *
  generalize checkB l = z at *
  obtain ⟨i0, hi, hz0, hz1, hz2⟩ := info_parts infoSp
  go_enter Try.func21, Try.ntmps21
  go_wp2_with fail
  go_loopw [5, 10] (fun u i wr => ∃ k : Nat, k ≤ xs.length ∧ i = .int .i64 k ∧ Hid (SpOwn wr w.heap.size u ((xs.take k).map dup)) ∧ Below w.heap.size w wr) (fun _ i _ => xs.length - (intOf i).toNat)
  case atStart => exact ⟨0, by omega, rfl, by simpa [Hid] using SpOwn.nil, Below.refl _ _⟩
  case round =>
    obtain ⟨k, hk, rfl, HO, kB⟩ := hrel
    by_cases hlt : k < xs.length
    · obtain ⟨b0, o0, rfl, e1⟩ := (HP.out.step kB).at_ hlt
      have hnext : Hid (∀ (u : Value) (W : World), W.ownsRow w.heap.size 40 2 u (((xs.take k).map dup).length + 1) (flatS ((xs.take k).map dup) ++ [.int .i64 xs[k], .int .i64 xs[k]]) → SpOwn W w.heap.size u ((xs.take (k + 1)).map dup)) := fun u W h => by
        have := SpOwn.more h
        rw [List.take_succ_eq_append_getElem hlt, List.map_append]
        exact this
      have hkl : Hid (((xs.take k).map dup).length = k) := by unfold Hid; simp; omega
      generalize (xs.take k).map dup = L at *
      generalize xs[k] = x at *
      go_wp2_with (at_builtin; refine wpList_append_own _ rfl _ _ 47 rfl (w.heap.size) 40 i0 (.agg #[.int .i64 0, .int .i64 0]) 2 16 Try.underlying47 hi hz0 hz1 hz2 rfl (by decide) _ _ _ rfl (World.ownsRow.alloc HO.out _) ⟨wr.heap.size, 0, none⟩ 1 1 [.int .i64 x, .int .i64 x] rfl rfl ?c1 ?c2 ?c3 ?c4 ?c5 ?_)
      case c1 =>
        intro j u hj
        match j, hj with
        | 0, hj => simp at hj; subst hj; simp [Addr.add]
        | 1, hj => simp at hj; subst hj; simp [Addr.add]
      case c2 => intro u hu; simp at hu; subst hu; rfl
      case c3 => have := hkl.out; unfold maxLen; omega
      case c4 => have := hkl.out; omega
      case c5 => have := kB.size; simp; omega
      · intro v' w1 hown hgrow _
        have hO2 := hnext.out v' w1 hown
        have kB2 : Below w.heap.size w w1 := (bAlloc kB _).grown hgrow (by have := kB.size; simp; omega) (own_ge HO.out)
        clear hown hgrow HO hnext hkl
        go_wp2
        go_roundw
        case rel => exact ⟨k + 1, by omega, by go_num, hO2, kB2⟩
        case measure => (simp [intOf]; omega)
    · obtain rfl : k = xs.length := by omega
      have HS : Hid (SpRow u5 (xs.map dup) wr) := by have := SpOwn.row HO.out; rwa [List.take_length] at this
      have HV2 := Lib.hid (HV.out.step kB)
      clear HV HP HO
      by_cases h1 : xs.length = l.length
      · by_cases h2 : z = 0
        · have hr := hr1.out h1 h2
          subst h2
          subst hr
          rw [h1]
          clear hr1 hr2 h1
          go_wp2_with (first | (go_at_call 19; refine (V.out _ HV2.out).mono ?_; rintro e w1 ⟨rfl, hb1⟩; have hx := HV2.out.step hb1; have hy := HS.out.step hb1; clear HV2 HS; have HV2 := Lib.hid hx; have HS := Lib.hid hy; clear hx hy) | (go_at_call 61; refine (A.out _ _ HV2.out HS.out).mono ?_; rintro e w2 ⟨rfl, hb2⟩))
          go_ret
          exact ⟨rfl, (by repeat' (first | exact Below.refl _ _ | assumption | apply bDrewN | apply bDrew | apply bAlloc | (refine bSet ?_ ?_ _) | (refine bStep ?_ (by assumption)) | omega | (simp <;> omega)))⟩
        · obtain rfl := hr2.out (fun q => h2 q.2)
          rw [h1]
          clear hr1 hr2 h1
          go_wp2_with (go_at_call 19; refine (V.out _ HV2.out).mono ?_; rintro e w1 ⟨rfl, hb1⟩)
          go_ret
          exact ⟨rfl, (by repeat' (first | exact Below.refl _ _ | assumption | apply bDrewN | apply bDrew | apply bAlloc | (refine bSet ?_ ?_ _) | (refine bStep ?_ (by assumption)) | omega | (simp <;> omega)))⟩
      · obtain rfl := hr2.out (fun q => h1 q.1)
        have h1' : (xs.length : Int) ≠ (l.length : Int) := by omega
        clear hr1 hr2 h1
        go_wp2_with (go_at_call 19; refine (V.out _ HV2.out).mono ?_; rintro e w1 ⟨rfl, hb1⟩)
        go_ret
        exact ⟨rfl, (by repeat' (first | exact Below.refl _ _ | assumption | apply bDrewN | apply bDrew | apply bAlloc | (refine bSet ?_ ?_ _) | (refine bStep ?_ (by assumption)) | omega | (simp <;> omega)))⟩

set_option maxHeartbeats 1000000 in
theorem BoxInside_row (v u : Value) (l m : List (Int × Int)) (w : World) (hl : l.length ≤ 1000000) (hm : m.length ≤ 1000000) (hv : SpRow v l w) (hu : SpRow u m w) :
    Calls Try.prog 23 #[v, u] w fun e w' => e = .returned (.bool (allS insideS l m)) ∧ Below w.heap.size w w' := by
  have A := Lib.hid (fun w h1 h2 => all_ins v u l m w (by omega) (by omega) h1 h2)
  have HV := Lib.hid hv
  have HU := Lib.hid hu
  clear hv hu
  generalize allS insideS l m = r at *
  go_enter Try.func23, Try.ntmps23
  go_wp2_with (go_at_call 61; refine (A.out _ HV.out HU.out).mono ?_; rintro e w2 ⟨rfl, hb2⟩)
  go_ret
  exact ⟨rfl, (by repeat' (first | exact Below.refl _ _ | assumption | apply bDrewN | apply bDrew | apply bAlloc | (refine bSet ?_ ?_ _) | (refine bStep ?_ (by assumption)) | omega | (simp <;> omega)))⟩

end Go.Proofs.Ytkldlmbccdfjdaa
