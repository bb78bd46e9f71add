/-
  The walk of the reference's CheckCurve, SameCurve.
-/
import Derived.Test.YtngnehlmbipabaaG17Backs
import Derived.Test.YtngnehlmbipabaaG8Backs
set_option linter.unusedSimpArgs false
set_option linter.unusedVariables false
namespace Go.Proofs.Ytngnehlmbipabaa
open Go.RowKit

def okAt (xs ys : List Int) (j : Nat) : Prop := isQ (xs.getD j 0) = true ∧ isQ (ys.getD j 0) = true ∧ (0 < j → xs.getD (j - 1) 0 < xs.getD j 0 ∧ ys.getD (j - 1) 0 ≤ ys.getD j 0)
theorem goodC_iff {xs ys : List Int} (h1 : xs.length = ys.length) (h2 : 2 ≤ xs.length) : goodC xs ys ↔ ∀ j, j < xs.length → okAt xs ys j := by
  have hall : ∀ zs : List Int, (zs.all isQ = true ↔ ∀ j, j < zs.length → isQ (zs.getD j 0) = true) := by
    intro zs
    rw [List.all_eq_true]
    constructor
    · intro h j hj
      rw [List.getD_eq_getElem?_getD, List.getElem?_eq_getElem hj]
      exact h _ (List.getElem_mem hj)
    · intro h z hz
      obtain ⟨j, hj, rfl⟩ := List.getElem_of_mem hz
      have := h j hj
      rwa [List.getD_eq_getElem?_getD, List.getElem?_eq_getElem hj] at this
  unfold goodC preC rising okAt
  rw [hall, hall]
  constructor
  · rintro ⟨⟨_, _, p3, p4⟩, p5⟩ j hj
    refine ⟨p3 j hj, p4 j (by omega), fun h0 => ?_⟩
    have := p5 (j - 1) (by omega)
    rw [show j - 1 + 1 = j by omega] at this
    exact this
  · intro h
    refine ⟨⟨h1, h2, fun j hj => (h j hj).1, fun j hj => (h j (by omega)).2.1⟩, fun k hk => ?_⟩
    have := (h (k + 1) (by omega)).2.2 (by omega)
    rw [show k + 1 - 1 = k by omega] at this
    exact this

set_option maxHeartbeats 4000000 in
set_option maxRecDepth 20000 in
theorem RCheckCurve_any (a b : Option Addr) (ca cb : Nat) (xs ys : List Int) (w : World) (hx : xs.length ≤ 1000000) (hy : ys.length ≤ 1000000) (hA : IntAt a xs w) (hB : IntAt b ys w) :
    Calls Try.prog 41 #[.agg #[.slice a xs.length ca, .slice b ys.length cb]] w fun e w' => e = .returned (.int .i64 (checkC xs ys)) ∧ Below w.heap.size w w' := by
  by_cases h1 : 64 < xs.length ∨ 64 < ys.length
  · have hr : checkC xs ys = 6 := by unfold checkC; rw [if_pos (by omega)]
    rw [hr]
    have h64 : 64 < (xs.length : Int) ∨ ((xs.length : Int) ≤ 64 ∧ 64 < (ys.length : Int)) := by omega
    clear hr h1 hA hB hx hy
    rcases h64 with h | ⟨h, h'⟩
    all_goals
      go_enter Try.func41, Try.ntmps41
      go_wp2_with fail
      go_ret
      exact ⟨rfl, (by repeat' (first | exact Below.refl _ _ | assumption | apply bDrewN | apply bDrew | apply bAlloc | (refine bSet ?_ ?_ _) | (refine bStep ?_ (by assumption)) | omega | (simp <;> omega)))⟩
  by_cases h2 : xs.length = ys.length ∧ 2 ≤ xs.length
  · obtain ⟨h2, h3⟩ := h2
    have hg := goodC_iff h2 h3
    have hr1 : Hid ((∀ j, j < xs.length → okAt xs ys j) → checkC xs ys = 0) := fun h => by unfold checkC; rw [if_neg (by omega), if_pos (hg.2 h)]
    have hr2 : Hid (∀ j, j < xs.length → ¬ okAt xs ys j → checkC xs ys = 2) := fun j hj h => by unfold checkC; rw [if_neg (by omega), if_neg (fun c => h (hg.1 c j hj))]
    generalize checkC xs ys = r at *
    have HA := Lib.hid hA
    have HB := Lib.hid hB
    have H2 := Lib.hid h2
    have h3' : 2 ≤ (xs.length : Int) := by omega
    have h4' : (xs.length : Int) ≤ 64 := by omega
    rw [← h2]
    clear h1 h2 hg hA hB hy
    go_enter Try.func41, Try.ntmps41
    go_wp2_with fail
    go_loopw [3] (fun i wr => ∃ (k n : Nat), k ≤ xs.length ∧ i = .int .i64 k ∧ wr = (w.alloc (.cells #[.slice a xs.length ca, .slice b xs.length cb] 24)).drewN n ∧ Hid (∀ j, j < k → okAt xs ys j)) (fun i _ => xs.length - (intOf i).toNat)
    case atStart => exact ⟨0, 0, by omega, rfl, rfl, fun j hj => by omega⟩
    case round =>
      obtain ⟨k, n, hk, rfl, rfl, HI⟩ := hrel
      by_cases hlt : k < xs.length
      · have hlt2 : k < ys.length := by rw [← H2.out]; exact hlt
        obtain ⟨bu, ou, rfl, -⟩ := HA.out.at_ hlt
        obtain ⟨bv, ov, rfl, -⟩ := HB.out.at_ hlt2
        have hne : xs ≠ [] := fun e => by rw [e] at hlt; simp at hlt
        have hne2 : ys ≠ [] := fun e => by rw [e] at hlt2; simp at hlt2
        obtain ⟨_, _, e1, hbu, hcx⟩ := HA.out hne
        cases e1
        obtain ⟨_, _, e2, hbv, hcy⟩ := HB.out hne2
        cases e2
        have c1 := hcx k hlt
        have c2 := hcy k hlt2
        have c3 := hcx (k - 1) (by omega)
        have c4 := hcy (k - 1) (by omega)
        have hok : Hid (okAt xs ys k → ∀ j, j < k + 1 → okAt xs ys j) := fun h j hj => by
          rcases Nat.lt_or_ge j k with h' | h'
          · exact HI.out j h'
          · obtain rfl : j = k := by omega
            exact h
        have hno : Hid (¬ okAt xs ys k → r = 2) := hr2.out k hlt
        clear hcx hcy HI hr1 hr2 H2 hne hne2
        unfold okAt at hok hno
        generalize xs.getD k 0 = x at *
        generalize ys.getD k 0 = y at *
        generalize xs.getD (k - 1) 0 = x' at *
        generalize ys.getD (k - 1) 0 = y' at *
        have HC : Hid ((isQ x = false) ∨ (isQ x = true ∧ isQ y = false) ∨ (isQ x = true ∧ isQ y = true ∧ k = 0) ∨ (isQ x = true ∧ isQ y = true ∧ 0 < k ∧ x ≤ x') ∨ (isQ x = true ∧ isQ y = true ∧ 0 < k ∧ x' < x ∧ y < y') ∨ (isQ x = true ∧ isQ y = true ∧ 0 < k ∧ x' < x ∧ y' ≤ y)) := by
          unfold Hid
          cases isQ x <;> cases isQ y <;> simp <;> omega
        rcases HC.out with q1 | ⟨q1, q2⟩ | ⟨q1, q2, q3⟩ | ⟨q1, q2, q3, q4⟩ | ⟨q1, q2, q3, q4, q5⟩ | ⟨q1, q2, q3, q4, q5⟩
        · obtain rfl := hno.out (fun h => by rw [q1] at h; exact absurd h.1 (by decide))
          clear hok hno HC HA HB
          go_wp2_with fail
          go_quiet ((go_at_call 42; first | exact quiet_add_left (Is_any _ _) | exact quiet_left (Is_any _ _)))
          go_wp2_with fail
          go_ret
          exact ⟨rfl, (by repeat' (first | exact Below.refl _ _ | assumption | apply bDrewN | apply bDrew | apply bAlloc | (refine bSet ?_ ?_ _) | (refine bStep ?_ (by assumption)) | omega | (simp <;> omega)))⟩
        · obtain rfl := hno.out (fun h => by rw [q2] at h; exact absurd h.2.1 (by decide))
          clear hok hno HC HA HB
          go_wp2_with fail
          go_quiet ((go_at_call 42; first | exact quiet_add_left (Is_any _ _) | exact quiet_left (Is_any _ _)))
          go_wp2_with fail
          go_ret
          exact ⟨rfl, (by repeat' (first | exact Below.refl _ _ | assumption | apply bDrewN | apply bDrew | apply bAlloc | (refine bSet ?_ ?_ _) | (refine bStep ?_ (by assumption)) | omega | (simp <;> omega)))⟩
        · subst q3
          rw [Nat.add_zero] at c1 c2
          have hN := Lib.hid (hok.out ⟨q1, q2, fun h => absurd h (by omega)⟩)
          clear hok hno HC
          go_wp2_with fail
          go_quiet ((go_at_call 42; first | exact quiet_add_left (Is_any _ _) | exact quiet_left (Is_any _ _)))
          go_wp2_with fail
          go_roundw
          case rel => exact ⟨1, _, by omega, by go_num, by first | exact Go.World.drewN_drewN .. | (simp; rfl) | rfl, hN.out⟩
          case measure => (simp [intOf]; omega)
        all_goals
          obtain ⟨j, hj⟩ : ∃ j, k - 1 = j := ⟨_, rfl⟩
          have hk1 : (k : Int) - 1 = (j : Int) := by omega
          rw [hj] at c3 c4
          have hk2 : j < xs.length := by omega
          have hk4 : j < ys.length := by omega
          have hw : IntKind.i64.wrap (j : Int) = j := Go.IntWalk.i64_in _ ⟨by omega, by omega⟩
          clear hj
          have hk3 : 0 < (k : Int) := by omega
        · obtain rfl := hno.out (fun h => by have := (h.2.2 q3).1; omega)
          clear hok hno HC HA HB
          go_wp2_with fail
          go_quiet ((go_at_call 42; first | exact quiet_add_left (Is_any _ _) | exact quiet_left (Is_any _ _)))
          go_wp2_with fail
          go_ret
          exact ⟨rfl, (by repeat' (first | exact Below.refl _ _ | assumption | apply bDrewN | apply bDrew | apply bAlloc | (refine bSet ?_ ?_ _) | (refine bStep ?_ (by assumption)) | omega | (simp <;> omega)))⟩
        · obtain rfl := hno.out (fun h => by have := (h.2.2 q3).2; omega)
          clear hok hno HC HA HB
          go_wp2_with fail
          go_quiet ((go_at_call 42; first | exact quiet_add_left (Is_any _ _) | exact quiet_left (Is_any _ _)))
          go_wp2_with fail
          go_ret
          exact ⟨rfl, (by repeat' (first | exact Below.refl _ _ | assumption | apply bDrewN | apply bDrew | apply bAlloc | (refine bSet ?_ ?_ _) | (refine bStep ?_ (by assumption)) | omega | (simp <;> omega)))⟩
        · have hN := Lib.hid (hok.out ⟨q1, q2, fun _ => ⟨q4, q5⟩⟩)
          clear hok hno HC
          go_wp2_with fail
          go_quiet ((go_at_call 42; first | exact quiet_add_left (Is_any _ _) | exact quiet_left (Is_any _ _)))
          go_wp2_with fail
          clear hk1 hw
          go_roundw
          case rel => exact ⟨k + 1, _, by omega, by go_num, by first | exact Go.World.drewN_drewN .. | (simp; rfl) | rfl, hN.out⟩
          case measure => (simp [intOf]; omega)
      · obtain rfl := hr1.out (fun j hj => HI.out j (by omega))
        clear HA HB HI hr2
        go_wp2_with fail
        go_ret
        exact ⟨rfl, (by repeat' (first | exact Below.refl _ _ | assumption | apply bDrewN | apply bDrew | apply bAlloc | (refine bSet ?_ ?_ _) | (refine bStep ?_ (by assumption)) | omega | (simp <;> omega)))⟩
  · have hr : checkC xs ys = 2 := by unfold checkC; rw [if_neg (by omega), if_neg (fun h => h2 ⟨h.1.1, h.1.2.1⟩)]
    rw [hr]
    have h64 : (xs.length : Int) ≤ 64 := by omega
    have h65 : (ys.length : Int) ≤ 64 := by omega
    have hc : (xs.length : Int) ≠ (ys.length : Int) ∨ ((xs.length : Int) = (ys.length : Int) ∧ (xs.length : Int) < 2) := by omega
    clear hr h1 h2 hA hB hx hy
    rcases hc with hc | ⟨hc, hc2⟩
    · go_enter Try.func41, Try.ntmps41
      go_wp2_with fail
      go_ret
      exact ⟨rfl, (by repeat' (first | exact Below.refl _ _ | assumption | apply bDrewN | apply bDrew | apply bAlloc | (refine bSet ?_ ?_ _) | (refine bStep ?_ (by assumption)) | omega | (simp <;> omega)))⟩
    · have hc' : xs.length = ys.length := by omega
      rw [← hc']
      clear hc hc'
      go_enter Try.func41, Try.ntmps41
      go_wp2_with fail
      go_ret
      exact ⟨rfl, (by repeat' (first | exact Below.refl _ _ | assumption | apply bDrewN | apply bDrew | apply bAlloc | (refine bSet ?_ ?_ _) | (refine bStep ?_ (by assumption)) | omega | (simp <;> omega)))⟩

end Go.Proofs.Ytngnehlmbipabaa

/-
  Two rows cloned into a new box, in any order: what the region's operations have done.
-/
set_option linter.unusedSimpArgs false
set_option linter.unusedVariables false
namespace Go.Proofs.Ytngnehlmbipabaa
open Go.RowKit

/-- The slice x holds a copy of xs, in a block of numbers from B on. -/
def CloX (B : Nat) (xs : List Int) (x : Value) (W : World) : Prop :=
  ∃ g c cur, x = .slice (some ⟨g, 0, none⟩) xs.length c ∧ B ≤ g ∧ W.heap[g]? = some (.cells cur 2 (0, 0)) ∧ ∀ k, k < xs.length → cur[k]? = some (.int .i64 (xs.getD k 0))
theorem CloX.step {B : Nat} {xs : List Int} {x : Value} {W w2 : World} (h : CloX B xs x W) (hb : Below W.heap.size W w2) : CloX B xs x w2 := by
  obtain ⟨g, c, cur, h1, h2, h3, h4⟩ := h
  exact ⟨g, c, cur, h1, h2, blk_step h3 hb, h4⟩
theorem IntOwn.clo {B B2 : Nat} {xs : List Int} {x : Value} {W : World} (h : IntOwn W B x xs) (hn : xs ≠ []) (hB : B2 ≤ B) : CloX B2 xs x W := by
  obtain ⟨h1, h2⟩ := h
  rcases h2 with ⟨rfl, h2⟩ | ⟨g, cap, cur, rfl, q2, q3, q4, q5, q6, q7⟩
  · exact absurd (List.length_eq_zero_iff.1 h2) hn
  · refine ⟨_, _, cur, rfl, by omega, q3, fun j hj => ?_⟩
    have hf : (flatI xs)[j]? = some (.int .i64 (xs.getD j 0)) := by simp [flatI, List.getD_eq_getElem?_getD, List.getElem?_eq_getElem hj]
    rw [← q7, List.getElem?_take_of_lt (by omega)] at hf
    simpa using hf

def zCurve : Array Value := #[.slice none 0 0, .slice none 0 0]
/-- b2, b5: the rows are cloned; b6: the pair is built; b7: the box is made; b8: it is filled. -/
def Clo (B : Nat) (xs ys : List Int) (b2 b5 b6 b7 b8 : Bool) (x y a s : Value) (W : World) : Prop :=
  (b2 = true → CloX B xs x W) ∧ (b5 = true → CloX B ys y W) ∧ (b2 = true → b5 = true → x.ownBlock ≠ y.ownBlock) ∧ (b6 = true → b2 = true ∧ b5 = true ∧ a = .agg #[x, y]) ∧ (b8 = true → b7 = true ∧ b6 = true) ∧
  (b7 = true → ∃ r, s = .pointer (some ⟨r, 0, none⟩) ∧ B ≤ r ∧ W.heap[r]? = some (.cells (if b8 = true then #[x, y] else zCurve) 24 (0, 0)))
section
variable {B : Nat} {xs ys : List Int} {b2 b5 b6 b7 b8 : Bool} {x y a s : Value} {W w2 : World}
theorem Clo.new : Clo B xs ys false false false false false x y a s W := ⟨by simp, by simp, by simp, by simp, by simp, by simp⟩
theorem Clo.step (h : Clo B xs ys b2 b5 b6 b7 b8 x y a s W) (hb : Below W.heap.size W w2) : Clo B xs ys b2 b5 b6 b7 b8 x y a s w2 := by
  obtain ⟨h1, h2, h3, h4, h5, h6⟩ := h
  refine ⟨fun e => (h1 e).step hb, fun e => (h2 e).step hb, h3, h4, h5, fun e => ?_⟩
  obtain ⟨r, q1, q2, q3⟩ := h6 e
  exact ⟨r, q1, q2, blk_step q3 hb⟩
theorem Clo.gx (h : Clo B xs ys true b5 b6 b7 b8 x y a s W) : CloX B xs x W := h.1 rfl
theorem Clo.gy (h : Clo B xs ys b2 true b6 b7 b8 x y a s W) : CloX B ys y W := h.2.1 rfl
theorem Clo.agg (h : Clo B xs ys b2 b5 true b7 b8 x y a s W) : a = .agg #[x, y] := (h.2.2.2.1 rfl).2.2
theorem Clo.box (h : Clo B xs ys b2 b5 b6 true b8 x y a s W) : ∃ r, s = .pointer (some ⟨r, 0, none⟩) ∧ B ≤ r ∧ W.heap[r]? = some (.cells (if b8 = true then #[x, y] else zCurve) 24 (0, 0)) := h.2.2.2.2.2 rfl
theorem Clo.mkX {x2 : Value} (h : Clo B xs ys false b5 b6 b7 b8 x y a s W) (hn : xs ≠ []) (hB : B ≤ W.heap.size) (hb : Below W.heap.size W w2) (ho : IntOwn w2 W.heap.size x2 xs) : Clo B xs ys true b5 b6 b7 b8 x2 y a s w2 := by
  obtain ⟨h1, h2, h3, h4, h5, h6⟩ := h
  have e6 : b6 = false := by cases b6; rfl; exact absurd (h4 rfl).1 (by decide)
  have e8 : b8 = false := by cases b8; rfl; exact absurd ((h5 rfl).2.symm.trans e6) (by decide)
  subst e6 e8
  refine ⟨fun _ => ho.clo hn hB, fun e => (h2 e).step hb, fun _ e c => ?_, by simp, by simp, fun e => ?_⟩
  · obtain ⟨g, c', cur, q1, q2, q3, q4⟩ := h2 e
    obtain ⟨g2, c2, cur2, r1, r2, r3, r4⟩ := ho.clo hn (Nat.le_refl _)
    have := blk_lt q3
    rw [q1, r1] at c
    simp [Value.ownBlock] at c
    omega
  · obtain ⟨r, q1, q2, q3⟩ := h6 e
    exact ⟨r, q1, q2, blk_step q3 hb⟩
theorem Clo.mkY {y2 : Value} (h : Clo B xs ys b2 false b6 b7 b8 x y a s W) (hn : ys ≠ []) (hB : B ≤ W.heap.size) (hb : Below W.heap.size W w2) (ho : IntOwn w2 W.heap.size y2 ys) : Clo B xs ys b2 true b6 b7 b8 x y2 a s w2 := by
  obtain ⟨h1, h2, h3, h4, h5, h6⟩ := h
  have e6 : b6 = false := by cases b6; rfl; exact absurd (h4 rfl).2.1 (by decide)
  have e8 : b8 = false := by cases b8; rfl; exact absurd ((h5 rfl).2.symm.trans e6) (by decide)
  subst e6 e8
  refine ⟨fun e => (h1 e).step hb, fun _ => ho.clo hn hB, fun e _ c => ?_, by simp, by simp, fun e => ?_⟩
  · obtain ⟨g, c', cur, q1, q2, q3, q4⟩ := h1 e
    obtain ⟨g2, c2, cur2, r1, r2, r3, r4⟩ := ho.clo hn (Nat.le_refl _)
    have := blk_lt q3
    rw [q1, r1] at c
    simp [Value.ownBlock] at c
    omega
  · obtain ⟨r, q1, q2, q3⟩ := h6 e
    exact ⟨r, q1, q2, blk_step q3 hb⟩
theorem Clo.mkA (h : Clo B xs ys true true b6 b7 b8 x y a s W) : Clo B xs ys true true true b7 b8 x y (.agg #[x, y]) s W := by
  obtain ⟨h1, h2, h3, h4, h5, h6⟩ := h
  exact ⟨h1, h2, h3, fun _ => ⟨rfl, rfl, rfl⟩, fun e => ⟨(h5 e).1, rfl⟩, h6⟩
theorem Clo.mkS (h : Clo B xs ys b2 b5 b6 false b8 x y a s W) (hB : B ≤ W.heap.size) : Clo B xs ys b2 b5 b6 true b8 x y a (.pointer (some ⟨W.heap.size, 0, none⟩)) (W.alloc (.cells zCurve 24)) := by
  have hb : Below W.heap.size W (W.alloc (.cells zCurve 24)) := (Below.refl _ _).alloc (Nat.le_refl _) _
  obtain ⟨h1, h2, h3, h4, h5, h6⟩ := h
  have e8 : b8 = false := by cases b8; rfl; exact absurd (h5 rfl).1 (by decide)
  subst e8
  exact ⟨fun e => (h1 e).step hb, fun e => (h2 e).step hb, h3, h4, by simp, fun _ => ⟨_, rfl, hB, by simpa using blk_new W (.cells zCurve 24)⟩⟩
theorem CloX.setFar {r o : Nat} {v : Value} {cs : Array Value} (h : CloX B xs x W) (hr : W.heap[r]? = some (.cells cs 24 (0, 0))) : CloX B xs x (W.setCell ⟨r, o, none⟩ v) := by
  obtain ⟨g, c, cur, h1, h2, h3, h4⟩ := h
  refine ⟨g, c, cur, h1, h2, blk_set_other h3 (fun e => ?_), h4⟩
  rw [e, hr] at h3
  simp only [Option.some.injEq, Obj.cells.injEq] at h3
  exact absurd h3.2.1 (by decide)
theorem Clo.mkSt {r : Nat} (h : Clo B xs ys true true true true false x y a (.pointer (some ⟨r, 0, none⟩)) W) : Clo B xs ys true true true true true x y a (.pointer (some ⟨r, 0, none⟩)) ((W.setCell ⟨r, 0, none⟩ x).setCell ⟨r, 1, none⟩ y) := by
  obtain ⟨h1, h2, h3, h4, h5, h6⟩ := h
  obtain ⟨r', q1, q2, q3⟩ := h6 rfl
  simp only [Value.pointer.injEq, Option.some.injEq, Addr.mk.injEq, and_true] at q1
  subst q1
  refine ⟨fun e => ((h1 e).setFar q3).setFar (blk_set q3), fun e => ((h2 e).setFar q3).setFar (blk_set q3), h3, h4, by simp, fun _ => ⟨_, rfl, q2, ?_⟩⟩
  have := blk_set (o := 1) (v := y) (blk_set (o := 0) (v := x) q3)
  simpa [zCurve] using this
theorem CloX.blk (h : CloX B xs x W) : ∃ g c, x = .slice (some ⟨g, 0, none⟩) xs.length c ∧ B ≤ g ∧ IntBlk W g xs := by
  obtain ⟨g, c, cur, h1, h2, h3, h4⟩ := h
  exact ⟨g, c, h1, h2, cur, _, h3, h4⟩
/-- Two rows in new memory, and a box that holds them. -/
def CuBox (B : Nat) (r gx cx gy cy : Nat) (xs ys : List Int) (W : World) : Prop :=
  W.cell? ⟨r, 0, none⟩ = some (.slice (some ⟨gx, 0, none⟩) xs.length cx) ∧ W.cell? ⟨r, 1, none⟩ = some (.slice (some ⟨gy, 0, none⟩) ys.length cy) ∧ IntBlk W gx xs ∧ IntBlk W gy ys ∧ gx ≠ gy ∧ r ≠ gx ∧ r ≠ gy ∧ B ≤ gx ∧ B ≤ gy ∧ B ≤ r
theorem Clo.fin (h : Clo B xs ys true true true true true x y a s W) : ∃ r gx cx gy cy, s = .pointer (some ⟨r, 0, none⟩) ∧ CuBox B r gx cx gy cy xs ys W := by
  obtain ⟨h1, h2, h3, h4, h5, h6⟩ := h
  obtain ⟨r, q1, q2, q3⟩ := h6 rfl
  obtain ⟨gx, cx, cur, x1, x2, x3, x4⟩ := h1 rfl
  obtain ⟨gy, cy, cur2, y1, y2, y3, y4⟩ := h2 rfl
  have hne := h3 rfl rfl
  rw [if_pos rfl] at q3
  refine ⟨r, gx, cx, gy, cy, q1, blk_cell q3 (by rw [x1]; rfl), blk_cell q3 (by rw [y1]; rfl), ⟨cur, _, x3, x4⟩, ⟨cur2, _, y3, y4⟩, ?_, ?_, ?_, x2, y2, q2⟩
  · intro e
    rw [x1, y1, e] at hne
    exact hne rfl
  · intro e
    rw [e, x3] at q3
    simp only [Option.some.injEq, Obj.cells.injEq] at q3
    exact absurd q3.2.1 (by decide)
  · intro e
    rw [e, y3] at q3
    simp only [Option.some.injEq, Obj.cells.injEq] at q3
    exact absurd q3.2.1 (by decide)
end

/-- Cs, and the block p, which may be written. -/
def Kf (w : World) (B : Nat) (l : List (Nat × Nat × Value)) (p : Nat) (W : World) : Prop := Cs w B l W ∧ p < B ∧ ∃ cur T, W.heap[p]? = some (.cells cur T (0, 0))
section
variable {w W w2 : World} {B p : Nat} {l : List (Nat × Nat × Value)}
theorem Kf.at_ {q o : Nat} {v : Value} (h : Kf w B l p W) (hm : (q, o, v) ∈ l) : W.cell? ⟨q, o, none⟩ = some v := h.1.at_ hm
theorem Kf.bel (h : Kf w B l p W) : Below w.heap.size w W := h.1.bel
theorem Kf.step (h : Kf w B l p W) (hb : Below W.heap.size W w2) : Kf w B l p w2 := by
  obtain ⟨h1, h2, cur, T, h3⟩ := h
  exact ⟨h1.step hb, h2, cur, T, blk_step h3 hb⟩
theorem Kf.alloc {o : Obj} (h : Kf w B l p W) : Kf w B l p (W.alloc o) := h.step ((Below.refl _ _).alloc (Nat.le_refl _) _)
theorem Kf.drew (h : Kf w B l p W) : Kf w B l p W.drew := h.step (Below.refl _ _).drew
theorem Kf.drewN {n : Nat} (h : Kf w B l p W) : Kf w B l p (W.drewN n) := h.step (bDrewN (Below.refl _ _))
theorem Kf.set {r o : Nat} {v : Value} (h : Kf w B l p W) (hr : B ≤ r) : Kf w B l p (W.setCell ⟨r, o, none⟩ v) := by
  obtain ⟨h1, h2, cur, T, h3⟩ := h
  exact ⟨h1.set hr, h2, cur, T, blk_set_other h3 (show p ≠ r by omega)⟩
theorem Kf.free {o : Nat} (h : Kf w B l p W) : W.frozen? ⟨p, o, none⟩ = false := by
  obtain ⟨h1, h2, cur, T, h3⟩ := h
  exact blk_free h3
end

end Go.Proofs.Ytngnehlmbipabaa
