/-
  CurveText of the reference.
-/
import Derived.Test.YtolnbblikfpnbaaDoorG8CurveTexts
import Derived.Maps.AppendAt
import Derived.Below
import Derived.Lib.CountLaws
import Derived.RangeFuncBox
import Derived.Test.YtolnbblikfpnbaaDoorG4CurveTexts
set_option linter.unusedSimpArgs false
set_option linter.unusedVariables false
namespace Go.Proofs.YtolnbblikfpnbaaDoor
open Sx Go.RowKit
theorem tail_app (l : List (List UInt8)) (x : List UInt8) : Lib.joinTail [32] (l ++ [x]) = Lib.joinTail [32] l ++ 32 :: x := by simp [Lib.joinTail]
theorem join_app {l : List (List UInt8)} (h : l ≠ []) (x : List UInt8) : Lib.join (l ++ [x]) [32] = Lib.join l [32] ++ 32 :: x := by
  cases l with
  | nil => exact absurd rfl h
  | cons y l => rw [List.cons_append, Lib.join_cons, Lib.join_cons, tail_app, List.append_assoc]
/-- The text of the first points. -/
def tS (xs ys : List Int) (k : Nat) : List UInt8 := Lib.join ((ptS xs ys k).map (·.data.toList)) [32]
theorem tS_zero (xs ys : List Int) : tS xs ys 0 = [] := rfl
theorem tS_one (xs ys : List Int) : tS xs ys 1 = pt (xs.getD 0 0, ys.getD 0 0) := by unfold tS ptS; simp [Lib.join_one]
theorem tS_more {xs ys : List Int} {k : Nat} (h : 0 < k) : tS xs ys (k + 1) = tS xs ys k ++ 32 :: pt (xs.getD k 0, ys.getD k 0) := by
  unfold tS
  rw [ptS_more, List.map_append]
  exact join_app (fun e => by have := ptS_len xs ys k; rw [List.map_eq_nil_iff] at e; rw [e] at this; simp at this; omega) _
theorem tS_all {xs ys : List Int} (h : xs.length = ys.length) : tS xs ys xs.length = textC xs ys := by unfold tS; rw [ptS_all h]; rfl
theorem pt_len {x y : Int} (hx : isQ x = true) (hy : isQ y = true) : (pt (x, y)).length ≤ 29 := by
  rw [isQ_iff] at hx hy
  have l1 := okP_len hx.1 hx.2
  have l2 := okP_len hy.1 hy.2
  unfold pt
  simp only [List.length_append, List.length_cons]
  omega
theorem tS_len {xs ys : List Int} (h : ∀ j, isQ (xs.getD j 0) = true ∧ isQ (ys.getD j 0) = true) (k : Nat) : (tS xs ys k).length ≤ k * 30 := by
  have := join_len (m := 29) (l := (ptS xs ys k).map (·.data.toList)) fun z hz => by
    obtain ⟨b, hb, rfl⟩ := List.mem_map.1 hz
    unfold ptS at hb
    obtain ⟨j, -, rfl⟩ := List.mem_map.1 hb
    exact pt_len (h j).1 (h j).2
  unfold tS
  rw [List.length_map, ptS_len] at this
  exact this
set_option maxHeartbeats 2000000 in
set_option maxRecDepth 20000 in
theorem RCurveText_any (a b : Option Addr) (ca cb : Nat) (xs ys : List Int) (w : World) (hx : xs.length ≤ 1000) (hy : ys.length ≤ 1000) (hA : IntAt a xs w) (hB : IntAt b ys w) :
    Calls Tryd.prog 11 #[.agg #[.slice a xs.length ca, .slice b ys.length cb]] w fun e w' => e = .returned (.tuple #[.string (tcS xs ys).1, .int .i64 (tcS xs ys).2]) ∧ Below w.heap.size w w' := by
  have CK := Lib.hid (fun W h1 h2 => RCheckCurve_any a b ca cb xs ys W (by omega) (by omega) h1 h2)
  have HA := Lib.hid hA
  have HB := Lib.hid hB
  by_cases hk : checkC xs ys = 0
  · rw [tcS_ok hk]
    rw [hk] at CK
    dsimp only
    clear hA hB
    have B0 := Lib.hid (blk_new w (.cells #[.slice a xs.length ca, .slice b ys.length cb] 33))
    go_enter Tryd.func11, Tryd.ntmps11
    go_wp2_with (go_at_call 27; refine (CK.out _ (HA.out.step (by repeat' (first | exact Below.refl _ _ | assumption | apply bDrewN | apply bDrew | apply bAlloc | (refine bSet ?_ ?_ _) | (refine bStep ?_ (by assumption)) | omega | (simp <;> omega)))) (HB.out.step (by repeat' (first | exact Below.refl _ _ | assumption | apply bDrewN | apply bDrew | apply bAlloc | (refine bSet ?_ ?_ _) | (refine bStep ?_ (by assumption)) | omega | (simp <;> omega))))).mono ?_; rintro e w1 ⟨rfl, hb1⟩; replace B0 := Lib.hid (blk_step B0.out hb1); obtain ⟨c0, c1, k0⟩ := cv_open B0.out)
    obtain ⟨n1, n2, n3, n4⟩ : xs.length = ys.length ∧ 2 ≤ xs.length ∧ xs.length ≤ 64 ∧ (∀ j, isQ (xs.getD j 0) = true ∧ isQ (ys.getD j 0) = true) := by
      obtain ⟨q1, q2, ⟨q3, q4, q5, q6⟩, -⟩ := okC_iff.1 hk
      exact ⟨q3, q4, q1, fun j => ⟨(isQ_iff _).2 (allQ_getD q5 j), (isQ_iff _).2 (allQ_getD q6 j)⟩⟩
    obtain ⟨ba, oa, rfl, hba, -⟩ := id (HA.out (fun e => by rw [e] at n2; simp at n2))
    obtain ⟨bb, ob, rfl, hbb, -⟩ := id (HB.out (fun e => by rw [e] at n1; simp only [List.length_nil] at n1; omega))
    have fx : Hid (∀ k, k < xs.length → w1.cell? ⟨ba, oa + k, none⟩ = some (.int .i64 (xs.getD k 0))) := fun k hk => by
      obtain ⟨b', o', ee, q⟩ := HA.out.at_ hk
      obtain ⟨rfl, rfl⟩ : b' = ba ∧ o' = oa := by injection ee with ee; injection ee with e1 e2 e3; exact ⟨e1.symm, e2.symm⟩
      rw [List.getD_eq_getElem?_getD, List.getElem?_eq_getElem hk]
      exact (hb1.cell (p := ⟨b', o' + k, none⟩) (Nat.lt_of_lt_of_le hba (by simp))).trans (by rw [World.cell?_alloc_old _ _ _ (Nat.ne_of_lt hba)]; exact q)
    have fy : Hid (∀ k, k < ys.length → w1.cell? ⟨bb, ob + k, none⟩ = some (.int .i64 (ys.getD k 0))) := fun k hk => by
      obtain ⟨b', o', ee, q⟩ := HB.out.at_ hk
      obtain ⟨rfl, rfl⟩ : b' = bb ∧ o' = ob := by injection ee with ee; injection ee with e1 e2 e3; exact ⟨e1.symm, e2.symm⟩
      rw [List.getD_eq_getElem?_getD, List.getElem?_eq_getElem hk]
      exact (hb1.cell (p := ⟨b', o' + k, none⟩) (Nat.lt_of_lt_of_le hbb (by simp))).trans (by rw [World.cell?_alloc_old _ _ _ (Nat.ne_of_lt hbb)]; exact q)
    have K1 := Lib.hid (bStep (bAl'' (W := w)) hb1)
    have hz1 : w.heap.size + 1 ≤ w1.heap.size := by have := hb1.size; simpa using this
    have hbx : Hid (bb < w.heap.size) := hbb
    have hax : Hid (ba < w.heap.size) := hba
    have HK := Lib.hid hk
    have HN := Lib.hid n1
    have HQ := Lib.hid n4
    rw [← n1] at c1 fy
    clear hb1 HA HB CK B0 hba hbb hk n1 n4 k0
    go_loopw [5, 6] (fun t i wr => ∃ k : Nat, k ≤ xs.length ∧ i = .int .i64 k ∧ t = .string ⟨(tS xs ys k).toArray⟩ ∧ Below w1.heap.size w1 wr) (fun _ i _ => xs.length - (intOf i).toNat)
    case atStart => exact ⟨0, by omega, rfl, rfl, Below.refl _ _⟩
    case round =>
      obtain ⟨k, hkl, rfl, rfl, kB⟩ := hrel
      have g0 := (kB.cell (p := ⟨w.heap.size, 0, none⟩) (by show w.heap.size < _; omega)).trans c0
      have g1 := (kB.cell (p := ⟨w.heap.size, 1, none⟩) (by show w.heap.size < _; omega)).trans c1
      by_cases hlt : k < xs.length
      · have hlt2 : (k : Int) < xs.length := by omega
        have gx := (kB.cell (p := ⟨ba, oa + k, none⟩) (by have := hax.out; show ba < _; omega)).trans (fx.out k hlt)
        have gy := (kB.cell (p := ⟨bb, ob + k, none⟩) (by have := hbx.out; show bb < _; omega)).trans (fy.out k hlt)
        have f0 : ∀ s : WStep wr, s.1.cell? ⟨w.heap.size, 0, none⟩ = _ := fun s => cell_step g0 s.2
        have f1 : ∀ s : WStep wr, s.1.cell? ⟨w.heap.size, 1, none⟩ = _ := fun s => cell_step g1 s.2
        have f2 : ∀ s : WStep wr, s.1.cell? ⟨ba, oa + k, none⟩ = _ := fun s => cell_step gx s.2
        have f3 : ∀ s : WStep wr, s.1.cell? ⟨bb, ob + k, none⟩ = _ := fun s => cell_step gy s.2
        obtain ⟨qx, qy⟩ := HQ.out k
        have lp := tS_len HQ.out k
        rw [isQ_iff] at qx qy
        have lx := okP_len qx.1 qx.2
        have ly := okP_len qy.1 qy.2
        have C1 := Lib.hid (fun W => Digits_any (xs.getD k 0) (by omega) (by omega) W)
        have C2 := Lib.hid (fun W => Digits_any (ys.getD k 0) (by omega) (by omega) W)
        have CX := Lib.hid (fun s : WStep wr => step_call s (C1.out s.1))
        have CY := Lib.hid (fun s : WStep wr => step_call s (C2.out s.1))
        have i1 : (0 : Int) ≤ (k : Int) := by omega
        have hk3 : k = 0 ∨ 0 < k := by omega
        obtain ⟨sp, hsp, hsz, hnx⟩ : ∃ sp : ByteArray, (0 < k → (ByteArray.mk (tS xs ys k).toArray) ++ ⟨#[32]⟩ = sp) ∧ sp.size ≤ 2000 ∧ ⟨(tS xs ys (k + 1)).toArray⟩ = ((sp ++ (ByteArray.mk (Lib.itoa (xs.getD k 0)).toArray)) ++ ⟨#[58]⟩) ++ (ByteArray.mk (Lib.itoa (ys.getD k 0)).toArray) ∧ (k = 0 → sp = ⟨#[]⟩) := by
          rcases hk3 with rfl | hk3
          · exact ⟨⟨#[]⟩, fun h => absurd h (by decide), by decide, ba_inj (by rw [tS_one]; unfold pt; simp), fun _ => rfl⟩
          · exact ⟨_, fun _ => rfl, by rw [Lib.size_eq]; simp; omega, ba_inj (by rw [tS_more hk3]; unfold pt; simp), fun h => by omega⟩
        obtain ⟨hnx, hs0⟩ := hnx
        have sx : (ByteArray.mk (Lib.itoa (xs.getD k 0)).toArray).size ≤ 14 := by rw [Lib.size_eq]; exact lx
        have sy : (ByteArray.mk (Lib.itoa (ys.getD k 0)).toArray).size ≤ 14 := by rw [Lib.size_eq]; exact ly
        have lt : (ByteArray.mk (tS xs ys k).toArray).size ≤ 1920 := by rw [Lib.size_eq]; simp; omega
        have h00 : k = 0 → (ByteArray.mk (tS xs ys k).toArray) = ⟨#[]⟩ := fun e => by subst e; rfl
        generalize (ByteArray.mk (tS xs ys k).toArray) = tt at *
        generalize htn : (ByteArray.mk (tS xs ys (k + 1)).toArray) = tn at *
        have HTN := Lib.hid htn
        clear htn
        generalize (ByteArray.mk (Lib.itoa (xs.getD k 0)).toArray) = tx at *
        generalize (ByteArray.mk (Lib.itoa (ys.getD k 0)).toArray) = ty at *
        generalize xs.getD k 0 = x at *
        generalize ys.getD k 0 = y at *
        have z1 : (sp ++ tx).size = sp.size + tx.size := by simp
        have z2 : ((sp ++ tx) ++ ⟨#[58]⟩ : ByteArray).size = (sp ++ tx).size + 1 := by simp; rfl
        obtain ⟨t1, h1⟩ : ∃ t, sp ++ tx = t := ⟨_, rfl⟩
        rw [h1] at z1 z2 hnx
        obtain ⟨t2, h2⟩ : ∃ t, t1 ++ ⟨#[58]⟩ = t := ⟨_, rfl⟩
        rw [h2] at z2 hnx
        obtain ⟨t3, h3⟩ : ∃ t, t2 ++ ty = t := ⟨_, rfl⟩
        rw [h3] at hnx
        have nx := Lib.hid hnx.symm
        have m1 : ¬ 9223372036854775807 < sp.size + tx.size := by omega
        have m2 : ¬ 9223372036854775807 < t1.size + 1 := by omega
        have m3 : ¬ 9223372036854775807 < t2.size + ty.size := by omega
        have m4 : ¬ 9223372036854775807 < tt.size + 1 := by omega
        clear hnx qx qy lx ly lp sx sy lt gx gy fx fy C1 C2 HN HK HQ hsz z1 z2
        rcases hk3 with hk3 | hk3
        · have e1 := h00 hk3
          have e2 := hs0 hk3
          have hk4 : ¬ 0 < (k : Int) := by omega
          rw [e1, ← e2]
          clear hk3 e1 e2 hs0 h00 hsp m4
          go_wp2_with fail
          refine wp_region_step (by kernel_rfl) (by kernel_rfl) ?_
          repeat (quiet_step (first | (with_reducible exact CX.out _) | (with_reducible exact CY.out _)))
          refine wpQuiet_nil ?_
          intro _ hw'
          obtain ⟨⟨W2, hW2⟩, hw''⟩ := hw'
          dsimp only at hw''
          subst hw''
          go_wp2_with fail
          exact ⟨⟨k + 1, by omega, by push_cast; rfl, by rw [nx.out]; exact congrArg Value.string HTN.out.symm, bStep kB hW2⟩, by simp [intOf]; omega⟩
        · have e1 := hsp hk3
          have hk4 : 0 < (k : Int) := by omega
          clear hk3 hs0 h00 hsp
          go_wp2_with fail
          refine wp_region_step (by kernel_rfl) (by kernel_rfl) ?_
          repeat (quiet_step (first | (with_reducible exact CX.out _) | (with_reducible exact CY.out _)))
          refine wpQuiet_nil ?_
          intro _ hw'
          obtain ⟨⟨W2, hW2⟩, hw''⟩ := hw'
          dsimp only at hw''
          subst hw''
          go_wp2_with fail
          exact ⟨⟨k + 1, by omega, by push_cast; rfl, by rw [nx.out]; exact congrArg Value.string HTN.out.symm, bStep kB hW2⟩, by simp [intOf]; omega⟩
      · obtain rfl : k = xs.length := by omega
        have hlt2 : ¬ (xs.length : Int) < xs.length := by omega
        have HT := Lib.hid (tS_all HN.out)
        clear fx fy HK HN HQ hlt
        generalize tS xs ys xs.length = t at *
        go_wp2_with fail
        exact bodyPost_ret (v := .tuple #[.string ⟨t.toArray⟩, .int .i64 0]) (by simp only [results, Tryd.results11]; go_simp) rfl ⟨by rw [HT.out], bStep K1.out kB⟩
  · rw [tcS_no hk]
    dsimp only
    have hk2 : (checkC xs ys != 0) = true := by simpa using hk
    generalize checkC xs ys = k at *
    clear hA hB hk
    generalize xs.length = lx at *
    generalize ys.length = ly at *
    go_enter Tryd.func11, Tryd.ntmps11
    go_wp2_with (go_at_call 27; refine (CK.out _ (HA.out.step (by repeat' (first | exact Below.refl _ _ | assumption | apply bDrewN | apply bDrew | apply bAlloc | (refine bSet ?_ ?_ _) | (refine bStep ?_ (by assumption)) | omega | (simp <;> omega)))) (HB.out.step (by repeat' (first | exact Below.refl _ _ | assumption | apply bDrewN | apply bDrew | apply bAlloc | (refine bSet ?_ ?_ _) | (refine bStep ?_ (by assumption)) | omega | (simp <;> omega))))).mono ?_; rintro e w1 ⟨rfl, hb1⟩)
    exact bodyPost_ret (v := .tuple #[.string ⟨#[]⟩, .int .i64 k]) (by simp only [results, Tryd.results11]; go_simp) rfl ⟨rfl, (by repeat' (first | exact Below.refl _ _ | assumption | apply bDrewN | apply bDrew | apply bAlloc | (refine bSet ?_ ?_ _) | (refine bStep ?_ (by assumption)) | omega | (simp <;> omega)))⟩
end Go.Proofs.YtolnbblikfpnbaaDoor

/-
  A curve that is being read: its box, its two rows; what CurveParse hands back.
-/
set_option linter.unusedSimpArgs false
set_option linter.unusedVariables false
namespace Go.Proofs.YtolnbblikfpnbaaDoor
open Sx Go.RowKit
def Far (u v : Value) : Prop := ∀ k, u.ownBlock = some k → v.ownBlock = some k → False
theorem Far.symm {u v : Value} (h : Far u v) : Far v u := fun k h1 h2 => h k h2 h1
theorem Far.ne {u v : Value} (h : Far u v) : u.ownBlock = none ∨ u.ownBlock ≠ v.ownBlock := by
  cases hu : u.ownBlock with
  | none => exact Or.inl rfl
  | some k => exact Or.inr fun e => h k hu e.symm
theorem Far.nil {v : Value} : Far (.slice none 0 0) v := fun k h => by cases h
theorem blk_grown {W w' : World} {row : Option Nat} {b : Nat} {x : Obj} (h : W.heap[b]? = some x) (hg : W.grownBy w' row) (hne : some b ≠ row) : w'.heap[b]? = some x := (hg.block b (blk_lt h) hne).trans h
/-- The state: the result's box, the curve's box, a third object that stays (or none), the two rows. -/
structure CuP (w : World) (So : Option Obj) (B : Nat) (vx vy : Value) (xs ys : List Int) (W : World) : Prop where
  hB : w.heap.size + 2 ≤ B ∧ (So ≠ none → w.heap.size + 3 ≤ B)
  bel : Below w.heap.size w W
  sz : B ≤ W.heap.size
  rb : W.heap[w.heap.size]? = some (.cells #[.slice none 0 0, .slice none 0 0] 33)
  cb : W.heap[w.heap.size + 1]? = some (.cells #[vx, vy] 33)
  sb : ∀ o, So = some o → W.heap[w.heap.size + 2]? = some o
  ox : IntOwn W B vx xs
  oy : IntOwn W B vy ys
  far : Far vx vy
theorem CuP.step {w W w2 : World} {So : Option Obj} {B : Nat} {vx vy : Value} {xs ys : List Int} (h : CuP w So B vx vy xs ys W) (hb : Below W.heap.size W w2) : CuP w So B vx vy xs ys w2 :=
  ⟨h.hB, bStep h.bel hb, Nat.le_trans h.sz hb.size, blk_step h.rb hb, blk_step h.cb hb, fun o e => blk_step (h.sb o e) hb, h.ox.step hb, h.oy.step hb, h.far⟩
/-- Behind an append to the first row, ahead of the store. -/
theorem CuP.grow {w W w1 : World} {So : Option Obj} {B : Nat} {vx vy : Value} {xs ys : List Int} {o : Obj} {row : Option Nat} (h : CuP w So B vx vy xs ys W) (hg : (W.alloc o).grownBy w1 row) (hr : ∀ k, row = some k → B ≤ k) :
    Below w.heap.size w w1 ∧ B ≤ w1.heap.size ∧ w1.heap[w.heap.size]? = some (.cells #[.slice none 0 0, .slice none 0 0] 33) ∧ w1.heap[w.heap.size + 1]? = some (.cells #[vx, vy] 33) ∧ (∀ o, So = some o → w1.heap[w.heap.size + 2]? = some o) := by
  have hB := h.hB
  have hs := h.sz
  have e : (W.alloc o).heap.size = W.heap.size + 1 := by simp
  refine ⟨(bAlloc h.bel o).grown hg (by have := h.bel.size; omega) fun k hk => by have := hr k hk; omega, Nat.le_trans (by omega) hg.size, blk_grown (blk_alloc h.rb) hg fun e => ?_, blk_grown (blk_alloc h.cb) hg fun e => ?_, fun x hx => blk_grown (blk_alloc (h.sb x hx)) hg fun e => ?_⟩
  · have := hr _ e.symm; omega
  · have := hr _ e.symm; omega
  · have := hr _ e.symm; have := hB.2 (by rw [hx]; simp); omega
theorem own_keep {W : World} {B e s : Nat} {v : Value} {n : Nat} {xs : List Value} (h : W.ownsRow B e s v n xs) {b o : Nat} {u : Value} (hb : b < B) : (W.setCell ⟨b, o, none⟩ u).ownsRow B e s v n xs := ownsRow_setCell_below h hb u
theorem far_app {W : World} {o : Obj} {B : Nat} {a a' v : Value} {ws : List Int} (hv : IntOwn W B v ws) (hf : Far a v) (hat : a'.ownBlock = a.ownBlock ∨ a'.ownBlock = some (W.alloc o).heap.size) : Far a' v := fun k e1 e2 => by
  rcases hat with e | e
  · exact hf k (e.symm.trans e1) e2
  · have := (hv.lt k e2).2
    rw [e] at e1
    simp at e1
    omega
theorem CuP.appX {w W w1 : World} {So : Option Obj} {B : Nat} {vx vy vx' : Value} {xs ys : List Int} {o : Obj} {x : Int} (h : CuP w So B vx vy xs ys W) (hown : w1.ownsRow B 2 1 vx' (xs.length + 1) (flatI xs ++ [.int .i64 x])) (hg : (W.alloc o).grownBy w1 vx.ownBlock)
    (hat : vx'.ownBlock = vx.ownBlock ∨ vx'.ownBlock = some (W.alloc o).heap.size) : CuP w So B vx' vy (xs ++ [x]) ys (w1.setCell ⟨w.heap.size + 1, 0, none⟩ vx') := by
  obtain ⟨g1, g2, g3, g4, g5⟩ := h.grow hg (own_ge h.ox)
  have hB := h.hB
  refine ⟨h.hB, g1.setCell (by show w.heap.size ≤ w.heap.size + 1; omega) _, by simpa using g2, blk_set_other g3 (by show w.heap.size ≠ w.heap.size + 1; omega), (blk_set g4).trans rfl, fun x hx => blk_set_other (g5 x hx) (by show w.heap.size + 2 ≠ w.heap.size + 1; omega), own_keep (IntOwn.more hown) (by omega), own_keep (World.ownsRow.kept (World.ownsRow.alloc h.oy _) hg h.far.symm.ne) (by omega), far_app h.oy h.far hat⟩
theorem CuP.appY {w W w1 : World} {So : Option Obj} {B : Nat} {vx vy vy' : Value} {xs ys : List Int} {o : Obj} {y : Int} (h : CuP w So B vx vy xs ys W) (hown : w1.ownsRow B 2 1 vy' (ys.length + 1) (flatI ys ++ [.int .i64 y])) (hg : (W.alloc o).grownBy w1 vy.ownBlock)
    (hat : vy'.ownBlock = vy.ownBlock ∨ vy'.ownBlock = some (W.alloc o).heap.size) : CuP w So B vx vy' xs (ys ++ [y]) (w1.setCell ⟨w.heap.size + 1, 1, none⟩ vy') := by
  obtain ⟨g1, g2, g3, g4, g5⟩ := h.grow hg (own_ge h.oy)
  have hB := h.hB
  refine ⟨h.hB, g1.setCell (by show w.heap.size ≤ w.heap.size + 1; omega) _, by simpa using g2, blk_set_other g3 (by show w.heap.size ≠ w.heap.size + 1; omega), (blk_set g4).trans rfl, fun x hx => blk_set_other (g5 x hx) (by show w.heap.size + 2 ≠ w.heap.size + 1; omega), own_keep (World.ownsRow.kept (World.ownsRow.alloc h.ox _) hg h.far.ne) (by omega), own_keep (IntOwn.more hown) (by omega), (far_app h.ox h.far.symm hat).symm⟩
/-- What a walk reads of the state. -/
theorem CuP.open_ {w W : World} {So : Option Obj} {B : Nat} {vx vy : Value} {xs ys : List Int} (h : CuP w So B vx vy xs ys W) : W.cell? ⟨w.heap.size, 0, none⟩ = some (.slice none 0 0) ∧ W.cell? ⟨w.heap.size, 1, none⟩ = some (.slice none 0 0) ∧ W.frozen? ⟨w.heap.size, 0, none⟩ = false ∧ W.frozen? ⟨w.heap.size, 1, none⟩ = false ∧
    W.cell? ⟨w.heap.size + 1, 0, none⟩ = some vx ∧ W.cell? ⟨w.heap.size + 1, 1, none⟩ = some vy ∧ W.frozen? ⟨w.heap.size + 1, 0, none⟩ = false ∧ W.frozen? ⟨w.heap.size + 1, 1, none⟩ = false ∧ w.heap.size + 1 < W.heap.size ∧ w.heap.size < W.heap.size :=
  ⟨blk_cell h.rb rfl, blk_cell h.rb rfl, blk_free h.rb, blk_free h.rb, blk_cell h.cb rfl, blk_cell h.cb rfl, blk_free h.cb, blk_free h.cb, blk_lt h.cb, blk_lt h.rb⟩
theorem mid_open {w W : World} {vx vy : Value} {T : TypeId} (h : W.heap[w.heap.size + 1]? = some (.cells #[vx, vy] T)) : W.cell? ⟨w.heap.size + 1, 0, none⟩ = some vx ∧ W.cell? ⟨w.heap.size + 1, 1, none⟩ = some vy ∧ W.frozen? ⟨w.heap.size + 1, 0, none⟩ = false ∧ W.frozen? ⟨w.heap.size + 1, 1, none⟩ = false ∧ w.heap.size + 1 < W.heap.size :=
  ⟨blk_cell h rfl, blk_cell h rfl, blk_free h, blk_free h, blk_lt h⟩
/-- What CurveParse hands back. -/
def CpR (l : List UInt8) (vx vy : Value) (er : Int) (W : World) : Prop := (∃ ps, parP l = some ps ∧ er = 0 ∧ IntRow vx (ps.map (·.1)) W ∧ IntRow vy (ps.map (·.2)) W) ∨ (parP l = none ∧ er = 8 ∧ vx = .slice none 0 0 ∧ vy = .slice none 0 0)
theorem CuP.done {w W : World} {So : Option Obj} {B : Nat} {vx vy u v : Value} {xs ys : List Int} (h : CuP w So B vx vy xs ys W) : IntRow vx xs ((W.setCell ⟨w.heap.size, 0, none⟩ u).setCell ⟨w.heap.size, 1, none⟩ v) ∧ IntRow vy ys ((W.setCell ⟨w.heap.size, 0, none⟩ u).setCell ⟨w.heap.size, 1, none⟩ v) := by
  have hB := h.hB
  exact ⟨IntOwn.row (own_keep (own_keep h.ox (by omega)) (by omega)), IntOwn.row (own_keep (own_keep h.oy (by omega)) (by omega))⟩
end Go.Proofs.YtolnbblikfpnbaaDoor

/-
  CurveParse of package quantity.
-/
set_option linter.unusedSimpArgs false
set_option linter.unusedVariables false
namespace Go.Proofs.YtolnbblikfpnbaaDoor
open Sx Go.RowKit
theorem cut58_any (s : ByteArray) (w : World) (hs : s.size ≤ 1000000) (hG : Glob0 w) :
    Calls Tryd.prog 22 #[.string s, .string ⟨#[58]⟩] w fun e w' => e = .returned (.tuple #[.string ⟨(Lib.cut s.data.toList [58]).1.toArray⟩, .string ⟨(Lib.cut s.data.toList [58]).2.1.toArray⟩, .bool (Lib.cut s.data.toList [58]).2.2]) ∧ Below w.heap.size w w' := by
  obtain ⟨m, hm⟩ := hG.1.max
  refine (Any.strings_Cut lays145 s ⟨#[58]⟩ m w (by omega) (by rw [show lays145_ren.g 1 = maxG by kernel_rfl]; exact hm)).mono fun e w' h => ?_
  obtain ⟨rfl, n, rfl⟩ := h
  exact ⟨rfl, bdrewN w n⟩
/-- The pieces of a text. -/
def pcz (s : ByteArray) : List ByteArray := Lib.splitB ⟨#[32]⟩ 0 (Lib.countB s ⟨#[32]⟩) s
theorem pcz_spl (s : ByteArray) : (pcz s).map (·.data.toList) = spl s.data.toList := by
  unfold pcz spl
  rw [Lib.splitB_data]
  congr 1
  rw [← Lib.count_one]
theorem split_any (s : ByteArray) (w : World) (hs : s.size ≤ 1000000) (hG : Glob0 w) :
    Calls Tryd.prog 28 #[.string s, .string ⟨#[32]⟩] w fun e w' => e = .returned (.slice (some ⟨w.heap.size, 0, none⟩) (pcz s).length (pcz s).length) ∧ w' = w.alloc (.cells ((pcz s).map Value.string).toArray 9) := by
  obtain ⟨m, hm⟩ := hG.1.max
  have hl : (pcz s).length = Lib.countB s ⟨#[32]⟩ + 1 := Lib.splitB_all ⟨#[32]⟩ (by decide) 0 _ s rfl
  rw [hl]
  exact Any.strings_Split lays146 (by kernel_rfl) s ⟨#[32]⟩ m w (by omega) (by rw [show lays146_ren.g 1 = maxG by kernel_rfl]; exact hm) (by decide)
theorem one_cellsG {W : World} {g : Nat} (h : g = W.heap.size) (x : Int) (T : TypeId) : ∀ j u, [Value.int .i64 x][j]? = some u → (W.alloc (.cells #[.int .i64 x] T)).cell? ((⟨g, 0, none⟩ : Addr).add j) = some u := by
  subst h
  exact one_cells W x T
theorem join_mem : ∀ {l : List (List UInt8)} {z : List UInt8}, z ∈ l → z.length ≤ (Lib.join l [32]).length
  | x :: l, z, h => by
    rw [Lib.join_cons, List.length_append]
    rcases List.mem_cons.1 h with rfl | h
    · omega
    · cases l with
      | nil => cases h
      | cons y l =>
        have := join_mem h
        rw [tail_cons, ← Lib.join_cons]
        simp only [List.length_cons]
        omega
theorem rdL_snoc : ∀ {l : List (List UInt8)} {ps : List (Int × Int)} {z : List UInt8} {p : Int × Int}, rdL l = some ps → rdP z = some p → rdL (l ++ [z]) = some (ps ++ [p])
  | [], ps, z, p, h, hz => by obtain rfl := Option.some.inj h; simp [rdL, hz]
  | x :: l, ps, z, p, h, hz => by
    unfold rdL at h
    split at h
    · rename_i a b ha hb
      obtain rfl := Option.some.inj h
      rw [List.cons_append, rdL, ha, rdL_snoc hb hz]
      rfl
    · cases h
theorem rdL_bad : ∀ {l r : List (List UInt8)} {z : List UInt8}, rdP z = none → rdL (l ++ z :: r) = none
  | [], r, z, h => by simp [rdL, h]
  | x :: l, r, z, h => by rw [List.cons_append, rdL, rdL_bad h]; split <;> simp_all
set_option maxHeartbeats 1000000 in
set_option maxRecDepth 20000 in
theorem CurveParse_any (s : ByteArray) (w : World) (hs : s.size ≤ 10000) (hG : Glob0 w) :
    Calls Tryd.prog 12 #[.string s] w fun e w' => ∃ vx vy er, e = .returned (.tuple #[.agg #[vx, vy], .int .i64 er]) ∧ CpR s.data.toList vx vy er w' ∧ Below w.heap.size w w' := by
  have CS := Lib.hid (fun W hG => split_any s W (by omega) hG)
  have HG := Lib.hid hG
  have hzl : (pcz s).length ≤ 10001 := by
    have h1 : (pcz s).length = Lib.countB s ⟨#[32]⟩ + 1 := Lib.splitB_all ⟨#[32]⟩ (by decide) 0 _ s rfl
    have h2 := Lib.countB_le ⟨#[32]⟩ (by decide) s.size s (Nat.le_refl _)
    omega
  have hmem : Hid (∀ z ∈ pcz s, z.size ≤ 10000) := fun z hz => by
    have h1 : z.data.toList ∈ spl s.data.toList := by rw [← pcz_spl]; exact List.mem_map.2 ⟨z, hz, rfl⟩
    have h2 := join_mem h1
    rw [spl_join, ← Lib.size_eq, ← Lib.size_eq] at h2
    omega
  have hspl := Lib.hid (pcz_spl s)
  generalize hzs : pcz s = zs at *
  clear hzs hG hs
  obtain ⟨j0, hj, hy0, hy1, hy2⟩ := info_parts infoI
  obtain ⟨B, hBe⟩ : ∃ B, B = w.heap.size + 3 := ⟨_, rfl⟩
  have P00 : CuP w (some (.cells (zs.map Value.string).toArray 9)) B (.slice none 0 0) (.slice none 0 0) [] [] (((w.alloc (.cells #[.slice none 0 0, .slice none 0 0] 33)).alloc (.cells #[.slice none 0 0, .slice none 0 0] 33)).alloc (.cells (zs.map Value.string).toArray 9)) := by
    refine ⟨⟨by omega, fun _ => by omega⟩, bAlloc (bAlloc (bAlloc (Below.refl _ _) _) _) _, by simp; omega, blk_alloc (blk_alloc (blk_new w _)), blk_alloc ?_, fun o e => ?_, IntOwn.nil, IntOwn.nil, Far.nil⟩
    · have := blk_new (w.alloc (.cells #[.slice none 0 0, .slice none 0 0] 33)) (.cells #[.slice none 0 0, .slice none 0 0] 33)
      simpa using this
    · obtain rfl := Option.some.inj e
      have := blk_new ((w.alloc (.cells #[.slice none 0 0, .slice none 0 0] 33)).alloc (.cells #[.slice none 0 0, .slice none 0 0] 33)) (.cells (zs.map Value.string).toArray 9)
      simpa using this
  have PP := Lib.hid P00
  clear P00
  go_enter Tryd.func12, Tryd.ntmps12
  go_wp2_with (go_at_call 28; refine (CS.out _ (gstep HG.out (by repeat' (first | exact Below.refl _ _ | assumption | apply bDrewN | apply bDrew | apply bAlloc | (refine bSet ?_ ?_ _) | (refine bStep ?_ (by assumption)) | omega | (simp <;> omega))))).mono ?_; rintro e w1 ⟨rfl, rfl⟩)
  go_loopw [6, 7, 8, 9, 10, 11, 12, 13, 17] (fun _ _ _ _ _ _ _ _ ix wr => ∃ (k : Nat) (ps : List (Int × Int)) (vx vy : Value), k ≤ zs.length ∧ ix = .int .i64 k ∧ Hid (rdL ((zs.map (·.data.toList)).take k) = some ps) ∧ Hid (CuP w (some (.cells (zs.map Value.string).toArray 9)) B vx vy (ps.map (·.1)) (ps.map (·.2)) wr) ∧ Hid (ps.length = k)) (fun _ _ _ _ _ _ _ _ ix _ => zs.length - (intOf ix).toNat)
  case atStart => exact ⟨0, [], _, _, by omega, rfl, rfl, PP.out, rfl⟩
  case round =>
    obtain ⟨k, ps, vx, vy, hk, rfl, HR, P0, HL⟩ := hrel
    obtain ⟨xs, hxs⟩ : ∃ xs, ps.map (·.1) = xs := ⟨_, rfl⟩
    obtain ⟨ys, hys⟩ : ∃ ys, ps.map (·.2) = ys := ⟨_, rfl⟩
    have hlx : xs.length = ps.length := by rw [← hxs]; simp
    have hly : ys.length = ps.length := by rw [← hys]; simp
    rw [hxs, hys] at P0
    have HXS := Lib.hid hxs
    have HYS := Lib.hid hys
    clear hxs hys
    obtain ⟨r0, r1, r2, r3, r4, r5, r6, r7, r8, r9⟩ := P0.out.open_; have kB := P0.out.bel
    by_cases hlt : k < zs.length
    · have hlt2 : (k : Int) < zs.length := by omega
      have i1 : (0 : Int) ≤ (k : Int) := by omega
      have sz : wr.cell? ⟨w.heap.size + 2, k, none⟩ = some (.string zs[k]) := blk_cell (P0.out.sb _ rfl) (by simp [hlt])
      have hzk := hmem.out zs[k] (List.getElem_mem hlt)
      have htk : (zs.map (·.data.toList)).take (k + 1) = (zs.map (·.data.toList)).take k ++ [zs[k].data.toList] := by
        rw [List.take_succ_eq_append_getElem (by simpa using hlt)]; simp
      have hdr : zs.map (·.data.toList) = (zs.map (·.data.toList)).take k ++ zs[k].data.toList :: (zs.map (·.data.toList)).drop (k + 1) := by
        conv => lhs; rw [← List.take_append_drop k (zs.map (·.data.toList))]
        rw [List.drop_eq_getElem_cons (by simpa using hlt)]; simp
      have hbad : Hid (rdP zs[k].data.toList = none → parP s.data.toList = none) := fun h => parP_q_none (by rw [← hspl.out, hdr]; exact rdL_bad h)
      have hgood : Hid (∀ p, rdP zs[k].data.toList = some p → rdL ((zs.map (·.data.toList)).take (k + 1)) = some (ps ++ [p])) := fun p h => by
        unfold Hid at HR
        rw [htk]; exact rdL_snoc HR h
      have hln : Hid (xs.length ≤ 10001 ∧ ys.length ≤ 10001) := by unfold Hid; have := HL.out; omega
      clear hlx hly
      clear htk hdr
      have CC0 := Lib.hid (fun W hG => cut58_any zs[k] W (by omega) hG)
      have hza : (Lib.cut zs[k].data.toList [58]).1.length ≤ 1000000 ∧ (Lib.cut zs[k].data.toList [58]).2.1.length ≤ 1000000 := by
        have hl : zs[k].data.toList.length = zs[k].size := (Lib.size_eq _).symm
        unfold Lib.cut
        split
        · simp only [List.length_take, List.length_drop]; omega
        · simp; omega
      have hdef : rdP zs[k].data.toList = if (Lib.cut zs[k].data.toList [58]).2.2 = true then (match rd (Lib.cut zs[k].data.toList [58]).1, rd (Lib.cut zs[k].data.toList [58]).2.1 with | some x, some y => some (x, y) | _, _ => none) else none := rfl
      rcases hcut : Lib.cut zs[k].data.toList [58] with ⟨a, b, f⟩
      rw [hcut] at CC0 hza hdef
      dsimp only at hza hdef
      generalize zs[k] = z at *
      have CC : Hid (∀ W, Glob0 W → Calls Tryd.prog 22 #[.string z, .string ⟨#[58]⟩] W fun e w' => e = .returned (.tuple #[.string ⟨a.toArray⟩, .string ⟨b.toArray⟩, .bool f]) ∧ Below W.heap.size W w') := CC0
      have CA := Lib.hid (fun W hG => read_any ⟨a.toArray⟩ W (by rw [Lib.size_eq]; exact hza.1) hG)
      have CB := Lib.hid (fun W hG => read_any ⟨b.toArray⟩ W (by rw [Lib.size_eq]; exact hza.2) hG)
      clear CC0 hza hcut hzk PP CS hspl hmem
      cases f with
      | false =>
        have HPn := Lib.hid (hbad.out (by rw [hdef, if_neg (by decide)]))
        clear hbad hgood hdef HR
        go_wp2_with (first
          | (go_at_call 22; refine (CC.out _ (gstep HG.out (by first | exact kB | exact (by repeat' (first | exact Below.refl _ _ | assumption | apply bDrewN | apply bDrew | apply bAlloc | (refine bSet ?_ ?_ _) | (refine bStep ?_ (by assumption)) | omega | (simp <;> omega)))))).mono ?_; rintro e w2 ⟨rfl, hb2⟩; replace P0 := Lib.hid (P0.out.step hb2); clear kB; obtain ⟨r0, r1, r2, r3, r4, r5, r6, r7, r8, r9⟩ := P0.out.open_; have kB := P0.out.bel)
          | (go_at_call 23; (with_reducible refine (CA.out _ (gstep HG.out kB)).mono ?_); rintro e w3 ⟨⟨v1, b1, rfl, -⟩, hb3⟩; replace P0 := Lib.hid (P0.out.step hb3); clear kB; obtain ⟨r0, r1, r2, r3, r4, r5, r6, r7, r8, r9⟩ := P0.out.open_; have kB := P0.out.bel)
          | (go_at_call 23; (with_reducible refine (CB.out _ (gstep HG.out kB)).mono ?_); rintro e w4 ⟨⟨v2, b2, rfl, -⟩, hb4⟩; replace P0 := Lib.hid (P0.out.step hb4); clear kB; obtain ⟨r0, r1, r2, r3, r4, r5, r6, r7, r8, r9⟩ := P0.out.open_; have kB := P0.out.bel))
        exact bodyPost_ret (v := .tuple #[.agg #[.slice none 0 0, .slice none 0 0], .int .i64 8]) (by simp only [results, Tryd.results12]; go_simp) rfl ⟨_, _, _, rfl, .inr ⟨HPn.out, rfl, rfl, rfl⟩, (by repeat' (first | exact Below.refl _ _ | assumption | apply bDrewN | apply bDrew | apply bAlloc | (refine bSet ?_ ?_ _) | (refine bStep ?_ (by assumption)) | omega | (simp <;> omega)))⟩
      | true =>
        rw [if_pos rfl] at hdef
        have HA : Hid (∀ v b, RdIs ⟨a.toArray⟩ v b → (rd a = some v ∧ b = true) ∨ (rd a = none ∧ b = false)) := fun v b h => h
        have HB : Hid (∀ v b1, RdIs ⟨b.toArray⟩ v b1 → (rd b = some v ∧ b1 = true) ∨ (rd b = none ∧ b1 = false)) := fun v b h => h
        cases ha : rd a with
        | none =>
          have HPn := Lib.hid (hbad.out (by rw [hdef, ha]))
          have DA : Hid (∀ W, Glob0 W → Calls Tryd.prog 23 #[.string ⟨a.toArray⟩] W fun e w' => (∃ v, e = .returned (.tuple #[.int .i64 v, .bool false])) ∧ Below W.heap.size W w') := (fun W hG => (CA.out W hG).mono fun e w' h => by
            obtain ⟨⟨v, b0, rfl, hr⟩, hbb⟩ := h
            rcases HA.out _ _ hr with ⟨h1, rfl⟩ | ⟨h1, rfl⟩
            · rw [ha] at h1; cases h1
            · exact ⟨⟨v, rfl⟩, hbb⟩)
          clear hbad hgood hdef HR CA HA HB ha
          have CA := DA
          clear DA
          go_wp2_with (first
            | (go_at_call 22; refine (CC.out _ (gstep HG.out (by first | exact kB | exact (by repeat' (first | exact Below.refl _ _ | assumption | apply bDrewN | apply bDrew | apply bAlloc | (refine bSet ?_ ?_ _) | (refine bStep ?_ (by assumption)) | omega | (simp <;> omega)))))).mono ?_; rintro e w2 ⟨rfl, hb2⟩; replace P0 := Lib.hid (P0.out.step hb2); clear kB; obtain ⟨r0, r1, r2, r3, r4, r5, r6, r7, r8, r9⟩ := P0.out.open_; have kB := P0.out.bel)
            | (go_at_call 23; (with_reducible refine (CA.out _ (gstep HG.out kB)).mono ?_); rintro e w3 ⟨⟨v1, rfl⟩, hb3⟩; replace P0 := Lib.hid (P0.out.step hb3); clear kB; obtain ⟨r0, r1, r2, r3, r4, r5, r6, r7, r8, r9⟩ := P0.out.open_; have kB := P0.out.bel)
            | (go_at_call 23; (with_reducible refine (CB.out _ (gstep HG.out kB)).mono ?_); rintro e w4 ⟨⟨v2, b2, rfl, -⟩, hb4⟩; replace P0 := Lib.hid (P0.out.step hb4); clear kB; obtain ⟨r0, r1, r2, r3, r4, r5, r6, r7, r8, r9⟩ := P0.out.open_; have kB := P0.out.bel))
          exact bodyPost_ret (v := .tuple #[.agg #[.slice none 0 0, .slice none 0 0], .int .i64 8]) (by simp only [results, Tryd.results12]; go_simp) rfl ⟨_, _, _, rfl, .inr ⟨HPn.out, rfl, rfl, rfl⟩, (by repeat' (first | exact Below.refl _ _ | assumption | apply bDrewN | apply bDrew | apply bAlloc | (refine bSet ?_ ?_ _) | (refine bStep ?_ (by assumption)) | omega | (simp <;> omega)))⟩
        | some x =>
          have DA : Hid (∀ W, Glob0 W → Calls Tryd.prog 23 #[.string ⟨a.toArray⟩] W fun e w' => e = .returned (.tuple #[.int .i64 x, .bool true]) ∧ Below W.heap.size W w') := (fun W hG => (CA.out W hG).mono fun e w' h => by
            obtain ⟨⟨v, b0, rfl, hr⟩, hbb⟩ := h
            rcases HA.out _ _ hr with ⟨h1, rfl⟩ | ⟨h1, rfl⟩
            · rw [ha] at h1; obtain rfl := Option.some.inj h1; exact ⟨rfl, hbb⟩
            · rw [ha] at h1; cases h1)
          clear CA
          have CA := DA
          clear DA
          cases hb : rd b with
          | none =>
            have HPn := Lib.hid (hbad.out (by rw [hdef, ha, hb]))
            have DB : Hid (∀ W, Glob0 W → Calls Tryd.prog 23 #[.string ⟨b.toArray⟩] W fun e w' => (∃ v, e = .returned (.tuple #[.int .i64 v, .bool false])) ∧ Below W.heap.size W w') := (fun W hG => (CB.out W hG).mono fun e w' h => by
              obtain ⟨⟨v, b0, rfl, hr⟩, hbb⟩ := h
              rcases HB.out _ _ hr with ⟨h1, rfl⟩ | ⟨h1, rfl⟩
              · rw [hb] at h1; cases h1
              · exact ⟨⟨v, rfl⟩, hbb⟩)
            clear hbad hgood hdef HR CB HA HB ha hb
            have CB := DB
            clear DB
            go_wp2_with (first
              | (go_at_call 22; refine (CC.out _ (gstep HG.out (by first | exact kB | exact (by repeat' (first | exact Below.refl _ _ | assumption | apply bDrewN | apply bDrew | apply bAlloc | (refine bSet ?_ ?_ _) | (refine bStep ?_ (by assumption)) | omega | (simp <;> omega)))))).mono ?_; rintro e w2 ⟨rfl, hb2⟩; replace P0 := Lib.hid (P0.out.step hb2); clear kB; obtain ⟨r0, r1, r2, r3, r4, r5, r6, r7, r8, r9⟩ := P0.out.open_; have kB := P0.out.bel)
              | (go_at_call 23; (with_reducible refine (CA.out _ (gstep HG.out kB)).mono ?_); rintro e w3 ⟨rfl, hb3⟩; replace P0 := Lib.hid (P0.out.step hb3); clear kB; obtain ⟨r0, r1, r2, r3, r4, r5, r6, r7, r8, r9⟩ := P0.out.open_; have kB := P0.out.bel)
              | (go_at_call 23; (with_reducible refine (CB.out _ (gstep HG.out kB)).mono ?_); rintro e w4 ⟨⟨v2, rfl⟩, hb4⟩; replace P0 := Lib.hid (P0.out.step hb4); clear kB; obtain ⟨r0, r1, r2, r3, r4, r5, r6, r7, r8, r9⟩ := P0.out.open_; have kB := P0.out.bel))
            exact bodyPost_ret (v := .tuple #[.agg #[.slice none 0 0, .slice none 0 0], .int .i64 8]) (by simp only [results, Tryd.results12]; go_simp) rfl ⟨_, _, _, rfl, .inr ⟨HPn.out, rfl, rfl, rfl⟩, (by repeat' (first | exact Below.refl _ _ | assumption | apply bDrewN | apply bDrew | apply bAlloc | (refine bSet ?_ ?_ _) | (refine bStep ?_ (by assumption)) | omega | (simp <;> omega)))⟩
          | some y =>
            have DB : Hid (∀ W, Glob0 W → Calls Tryd.prog 23 #[.string ⟨b.toArray⟩] W fun e w' => e = .returned (.tuple #[.int .i64 y, .bool true]) ∧ Below W.heap.size W w') := (fun W hG => (CB.out W hG).mono fun e w' h => by
              obtain ⟨⟨v, b0, rfl, hr⟩, hbb⟩ := h
              rcases HB.out _ _ hr with ⟨h1, rfl⟩ | ⟨h1, rfl⟩
              · rw [hb] at h1; obtain rfl := Option.some.inj h1; exact ⟨rfl, hbb⟩
              · rw [hb] at h1; cases h1)
            have HR2 := Lib.hid (hgood.out (x, y) (by rw [hdef, ha, hb]))
            clear hbad hgood hdef HR CB HA HB ha hb
            have CB := DB
            clear DB
            go_wp2_with (first
              | (go_at_call 22; refine (CC.out _ (gstep HG.out (by first | exact kB | exact (by repeat' (first | exact Below.refl _ _ | assumption | apply bDrewN | apply bDrew | apply bAlloc | (refine bSet ?_ ?_ _) | (refine bStep ?_ (by assumption)) | omega | (simp <;> omega)))))).mono ?_; rintro e w2 ⟨rfl, hb2⟩; replace P0 := Lib.hid (P0.out.step hb2); clear kB; obtain ⟨r0, r1, r2, r3, r4, r5, r6, r7, r8, r9⟩ := P0.out.open_; have kB := P0.out.bel)
              | (go_at_call 23; (with_reducible refine (CA.out _ (gstep HG.out kB)).mono ?_); rintro e w3 ⟨rfl, hb3⟩; replace P0 := Lib.hid (P0.out.step hb3); clear kB; obtain ⟨r0, r1, r2, r3, r4, r5, r6, r7, r8, r9⟩ := P0.out.open_; have kB := P0.out.bel)
              | (go_at_call 23; (with_reducible refine (CB.out _ (gstep HG.out kB)).mono ?_); rintro e w4 ⟨rfl, hb4⟩; replace P0 := Lib.hid (P0.out.step hb4); clear kB; obtain ⟨r0, r1, r2, r3, r4, r5, r6, r7, r8, r9⟩ := P0.out.open_; have kB := P0.out.bel)
              | (at_builtin; refine wpList_append_own_at _ rfl (.tmp 49) (.tmp 51) 31 rfl B 2 j0 (.int .i64 0) 1 8 Tryd.underlying31 hj hy0 hy1 hy2 rfl (by decide) _ _ _ rfl (World.ownsRow.alloc P0.out.ox _) ⟨_, 0, none⟩ 1 1 [.int .i64 _] rfl rfl (one_cellsG (by simp) _ _) (one_one _) (by have := hln.out; unfold maxLen; omega) (by have := hln.out; omega) (by have := P0.out.sz; simp at this ⊢; omega) ?_; intro vx' waox hown hgrow hnil hat; obtain ⟨gvx, cvx, rfl⟩ := ownsRow_succ hown; have G := P0.out.grow hgrow (own_ge P0.out.ox); obtain ⟨m0, m1, m2, m3, m4⟩ := mid_open G.2.2.2.1; replace P0 := Lib.hid (P0.out.appX hown hgrow hat); clear G hown hgrow hnil hat)
              | (at_builtin; refine wpList_append_own_at _ rfl (.tmp 55) (.tmp 57) 31 rfl B 2 j0 (.int .i64 0) 1 8 Tryd.underlying31 hj hy0 hy1 hy2 rfl (by decide) _ _ _ rfl (World.ownsRow.alloc P0.out.oy _) ⟨_, 0, none⟩ 1 1 [.int .i64 _] rfl rfl (one_cellsG (by simp) _ _) (one_one _) (by have := hln.out; unfold maxLen; omega) (by have := hln.out; omega) (by have := P0.out.sz; simp at this ⊢; omega) ?_; intro vy' waoy hown hgrow hnil hat; obtain ⟨gvy, cvy, rfl⟩ := ownsRow_succ hown; have G := P0.out.grow hgrow (own_ge P0.out.oy); obtain ⟨m0, m1, m2, m3, m4⟩ := mid_open G.2.2.2.1; replace P0 := Lib.hid (P0.out.appY hown hgrow hat); clear G hown hgrow hnil hat))
            refine ⟨⟨k + 1, ps ++ [(x, y)], .slice (some ⟨gvx, 0, none⟩) (xs.length + 1) cvx, .slice (some ⟨gvy, 0, none⟩) (ys.length + 1) cvy, by omega, by push_cast; rfl, HR2.out, ?_, by unfold Hid; rw [List.length_append, HL.out]; rfl⟩, by simp [intOf]; omega⟩
            unfold Hid
            rw [List.map_append, List.map_append, HXS.out, HYS.out]
            exact P0.out
    · obtain rfl : k = zs.length := by omega
      have hlt2 : ¬ (zs.length : Int) < zs.length := by omega
      have hR2 : rdL (spl s.data.toList) = some ps := by
        have := HR.out
        rw [List.take_of_length_le (by simp), hspl.out] at this
        exact this
      have hps := HL.out
      clear hmem hspl CS PP HR HL hlt
      obtain ⟨a1, d1, rfl, hA⟩ := P0.out.ox.row
      obtain ⟨a2, d2, rfl, hB⟩ := P0.out.oy.row
      have HA := Lib.hid hA
      have HB := Lib.hid hB
      have CK := Lib.hid (fun W h1 h2 => CheckCurve_any a1 a2 d1 d2 xs ys W (by omega) (by omega) h1 h2)
      clear hA hB
      by_cases hk0 : checkC xs ys = 0
      · have HP := Lib.hid (parP_q_some hR2 (by rw [HXS.out, HYS.out]; exact hk0))
        rw [hk0] at CK
        clear hR2 hk0 hps hlx hly
        go_wp2_with (go_at_call 25; with_reducible refine (CK.out _ HA.out HB.out).mono ?_; rintro e w2 ⟨rfl, hb2⟩; replace P0 := Lib.hid (P0.out.step hb2); clear kB; obtain ⟨r0, r1, r2, r3, r4, r5, r6, r7, r8, r9⟩ := P0.out.open_; have kB := P0.out.bel)
        exact bodyPost_ret (v := .tuple #[.agg #[.slice a1 xs.length d1, .slice a2 ys.length d2], .int .i64 0]) (by simp only [results, Tryd.results12]; go_simp) rfl ⟨_, _, _, rfl, .inl ⟨ps, HP.out, rfl, by rw [HXS.out]; exact P0.out.done.1, by rw [HYS.out]; exact P0.out.done.2⟩, (by repeat' (first | exact Below.refl _ _ | assumption | apply bDrewN | apply bDrew | apply bAlloc | (refine bSet ?_ ?_ _) | (refine bStep ?_ (by assumption)) | omega | (simp <;> omega)))⟩
      · have HPn := Lib.hid (parP_q_bad hR2 (by rw [HXS.out, HYS.out]; exact hk0))
        have hk2 : (checkC xs ys != 0) = true := by simpa using hk0
        generalize checkC xs ys = kk at *
        clear hR2 hk0 hps hlx hly
        go_wp2_with (go_at_call 25; with_reducible refine (CK.out _ HA.out HB.out).mono ?_; rintro e w2 ⟨rfl, hb2⟩; replace P0 := Lib.hid (P0.out.step hb2); clear kB; obtain ⟨r0, r1, r2, r3, r4, r5, r6, r7, r8, r9⟩ := P0.out.open_; have kB := P0.out.bel)
        exact bodyPost_ret (v := .tuple #[.agg #[.slice none 0 0, .slice none 0 0], .int .i64 8]) (by simp only [results, Tryd.results12]; go_simp) rfl ⟨_, _, _, rfl, .inr ⟨HPn.out, rfl, rfl, rfl⟩, (by repeat' (first | exact Below.refl _ _ | assumption | apply bDrewN | apply bDrew | apply bAlloc | (refine bSet ?_ ?_ _) | (refine bStep ?_ (by assumption)) | omega | (simp <;> omega)))⟩
end Go.Proofs.YtolnbblikfpnbaaDoor

/-
  CurveParse of the reference.
-/
set_option linter.unusedSimpArgs false
set_option linter.unusedVariables false
namespace Go.Proofs.YtolnbblikfpnbaaDoor
open Sx Go.RowKit
theorem ext_seg {s : ByteArray} {a i : Nat} : (s.extract a i).data.toList = seg s.data.toList a i := by rw [Lib.extract_eq]; unfold seg; simp
theorem neU {c d : UInt8} (h : ¬ c = d) : ((c.toNat : Int) != (d.toNat : Int)) = true := by
  simp only [bne_iff_ne, ne_eq]
  intro q
  exact h (UInt8.toNat_inj.1 (by omega))
theorem eqU {c d : UInt8} (h : ¬ c = d) : ((c.toNat : Int) == (d.toNat : Int)) = false := by
  simp only [beq_eq_false_iff_ne, ne_eq]
  intro q
  exact h (UInt8.toNat_inj.1 (by omega))
set_option maxHeartbeats 4000000 in
set_option maxRecDepth 20000 in
theorem RCurveParse_any (s : ByteArray) (w : World) (hs : s.size ≤ 10000) :
    Calls Tryd.prog 13 #[.string s] w fun e w' => ∃ vx vy er, e = .returned (.tuple #[.agg #[vx, vy], .int .i64 er]) ∧ CpR s.data.toList vx vy er w' ∧ Below w.heap.size w w' := by
  obtain ⟨l, hl⟩ : ∃ l, s.data.toList = l := ⟨_, rfl⟩
  rw [hl]
  have hsz : l.length = s.size := by rw [← hl]; exact (Lib.size_eq s).symm
  obtain ⟨j0, hj, hy0, hy1, hy2⟩ := info_parts infoI
  obtain ⟨B, hBe⟩ : ∃ B, B = w.heap.size + 2 := ⟨_, rfl⟩
  have P00 : CuP w none B (.slice none 0 0) (.slice none 0 0) [] [] ((w.alloc (.cells #[.slice none 0 0, .slice none 0 0] 33)).alloc (.cells #[.slice none 0 0, .slice none 0 0] 33)) := by
    refine ⟨⟨by omega, fun h => absurd rfl h⟩, bAlloc (bAlloc (Below.refl _ _) _) _, by simp; omega, blk_alloc (blk_new w _), ?_, fun o e => (by cases e), IntOwn.nil, IntOwn.nil, Far.nil⟩
    have := blk_new (w.alloc (.cells #[.slice none 0 0, .slice none 0 0] 33)) (.cells #[.slice none 0 0, .slice none 0 0] 33)
    simpa using this
  have PP := Lib.hid P00
  have HLS := Lib.hid hl
  clear P00 hl
  go_enter Tryd.func13, Tryd.ntmps13
  go_wp2_with fail
  go_loopw [5, 6, 7, 8] (fun fr ix _ _ wr => ∃ (i a : Nat) (X Y : List Int) (vx vy : Value), a ≤ i ∧ i ≤ s.size + 1 ∧ fr = .int .i64 a ∧ ix = .int .i64 i ∧ Hid (scA l i a X Y = scA l 0 0 [] []) ∧ Hid (CuP w none B vx vy X Y wr) ∧ X.length ≤ 65 ∧ Y.length ≤ 65) (fun _ ix _ _ _ => s.size + 1 - (intOf ix).toNat)
  case atStart => exact ⟨0, 0, [], [], _, _, by omega, by omega, rfl, rfl, rfl, PP.out, by simp, by simp⟩
  case round =>
    obtain ⟨i, a, X, Y, vx, vy, hai, hi, rfl, rfl, HS, P0, hX, hY⟩ := hrel
    obtain ⟨a1, d1, rfl, hA⟩ := P0.out.ox.row
    obtain ⟨a2, d2, rfl, hB⟩ := P0.out.oy.row
    obtain ⟨r0, r1, r2, r3, r4, r5, r6, r7, r8, r9⟩ := P0.out.open_; have kB := P0.out.bel
    have hln : Hid (X.length ≤ 65 ∧ Y.length ≤ 65) := ⟨hX, hY⟩
    have i0 : (0 : Int) ≤ (i : Int) := by omega
    have i1 : (0 : Int) ≤ (a : Int) := by omega
    have i2 : (a : Int) ≤ (i : Int) := by omega
    by_cases hc : i ≤ l.length ∧ X.length ≤ 64 ∧ Y.length ≤ 64
    · have c1 : (i : Int) ≤ s.size := by omega
      have c2 : (X.length : Int) ≤ 64 := by omega
      have c3 : (Y.length : Int) ≤ 64 := by omega
      have hst := scA_step (a := a) hc
      have hse : (s.extract a i).data.toList = seg l a i := by rw [ext_seg, HLS.out]
      clear hA hB PP
      by_cases hlt : i < s.size
      · have c4 : (i : Int) < s.size := by omega
        have hg : l.getD i 0 = s[i] := by
          have hil : i < l.length := by omega
          rw [List.getD_eq_getElem?_getD, List.getElem?_eq_getElem hil]
          have := HLS.out
          subst this
          exact Array.getElem_toList _
        rw [hg] at hst
        clear hg
        by_cases h58 : s[i] = 58
        · have d1' : ((s[i].toNat : Int) != 58) = false := by rw [h58]; rfl
          have d2' : ((s[i].toNat : Int) == 58) = true := by rw [h58]; rfl
          rw [if_neg (fun q => q.2.1 h58), if_pos (show i < l.length ∧ s[i] = 58 from ⟨by omega, h58⟩)] at hst
          clear h58 hc
          cases hn : isN (seg l a i) with
          | false =>
            have HPn := Lib.hid (show parP l = none from parP_r_none (by rw [← HS.out, hst, hn]; rfl))
            have CN := Lib.hid (fun W => Number_no (s := s.extract a i) (l := seg l a i) hse hn W)
            clear HS hn hse
            go_wp2_with (go_at_call 24; (with_reducible refine (CN.out _).mono ?_); rintro e w2 ⟨⟨v1, rfl⟩, hb2⟩; replace P0 := Lib.hid (P0.out.step hb2); clear kB; obtain ⟨r0, r1, r2, r3, r4, r5, r6, r7, r8, r9⟩ := P0.out.open_; have kB := P0.out.bel)
            exact bodyPost_ret (v := .tuple #[.agg #[.slice none 0 0, .slice none 0 0], .int .i64 8]) (by simp only [results, Tryd.results13]; go_simp) rfl ⟨_, _, _, rfl, .inr ⟨HPn.out, rfl, rfl, rfl⟩, (by repeat' (first | exact Below.refl _ _ | assumption | apply bDrewN | apply bDrew | apply bAlloc | (refine bSet ?_ ?_ _) | (refine bStep ?_ (by assumption)) | omega | (simp <;> omega)))⟩
          | true =>
            have HS2 := Lib.hid (show scA l (i + 1) (i + 1) (X ++ [sv (seg l a i)]) Y = scA l 0 0 [] [] from by rw [← HS.out, hst, hn]; rfl)
            obtain ⟨n, hsv⟩ : ∃ n, sv (seg l a i) = n := ⟨_, rfl⟩
            have CN := Lib.hid (fun W => Number_yes (s := s.extract a i) (l := seg l a i) hse hn hsv W)
            rw [hsv] at HS2
            have HSV := Lib.hid hsv
            clear HS hn hse hsv
            go_wp2_with (first
              | (go_at_call 24; (with_reducible refine (CN.out _).mono ?_); rintro e w2 ⟨rfl, hb2⟩; replace P0 := Lib.hid (P0.out.step hb2); clear kB; obtain ⟨r0, r1, r2, r3, r4, r5, r6, r7, r8, r9⟩ := P0.out.open_; have kB := P0.out.bel)
              | (at_builtin; refine wpList_append_own_at _ rfl (.tmp 67) (.tmp 69) 31 rfl B 2 j0 (.int .i64 0) 1 8 Tryd.underlying31 hj hy0 hy1 hy2 rfl (by decide) _ _ _ rfl (World.ownsRow.alloc P0.out.ox _) ⟨_, 0, none⟩ 1 1 [.int .i64 _] rfl rfl (one_cellsG (by simp) _ _) (one_one _) (by have := hln.out; unfold maxLen; omega) (by have := hln.out; omega) (by have := P0.out.sz; simp at this ⊢; omega) ?_; intro vx' waox hown hgrow hnil hat; obtain ⟨gvx, cvx, rfl⟩ := ownsRow_succ hown; have G := P0.out.grow hgrow (own_ge P0.out.ox); obtain ⟨m0, m1, m2, m3, m4⟩ := mid_open G.2.2.2.1; replace P0 := Lib.hid (P0.out.appX hown hgrow hat); clear G hown hgrow hnil hat))
            exact ⟨⟨i + 1, i + 1, X ++ [n], Y, .slice (some ⟨gvx, 0, none⟩) (X.length + 1) cvx, .slice a2 Y.length d2, by omega, by omega, by push_cast; rfl, by push_cast; rfl, HS2.out, P0.out, by simp; omega, by omega⟩, by simp [intOf]; omega⟩
        · have d1' : ((s[i].toNat : Int) != 58) = true := neU h58
          have d2' : ((s[i].toNat : Int) == 58) = false := eqU h58
          by_cases h32 : s[i] = 32
          · have d3' : ((s[i].toNat : Int) != 32) = false := by rw [h32]; rfl
            rw [if_neg (fun q => q.2.2 h32), if_neg (show ¬ (i < l.length ∧ s[i] = 58) from fun q => h58 q.2)] at hst
            clear h58 h32 hc
            cases hn : isN (seg l a i) with
            | false =>
              have HPn := Lib.hid (show parP l = none from parP_r_none (by rw [← HS.out, hst, hn]; rfl))
              have CN := Lib.hid (fun W => Number_no (s := s.extract a i) (l := seg l a i) hse hn W)
              clear HS hn hse
              go_wp2_with (go_at_call 24; (with_reducible refine (CN.out _).mono ?_); rintro e w2 ⟨⟨v1, rfl⟩, hb2⟩; replace P0 := Lib.hid (P0.out.step hb2); clear kB; obtain ⟨r0, r1, r2, r3, r4, r5, r6, r7, r8, r9⟩ := P0.out.open_; have kB := P0.out.bel)
              exact bodyPost_ret (v := .tuple #[.agg #[.slice none 0 0, .slice none 0 0], .int .i64 8]) (by simp only [results, Tryd.results13]; go_simp) rfl ⟨_, _, _, rfl, .inr ⟨HPn.out, rfl, rfl, rfl⟩, (by repeat' (first | exact Below.refl _ _ | assumption | apply bDrewN | apply bDrew | apply bAlloc | (refine bSet ?_ ?_ _) | (refine bStep ?_ (by assumption)) | omega | (simp <;> omega)))⟩
            | true =>
              have HS2 := Lib.hid (show scA l (i + 1) (i + 1) X (Y ++ [sv (seg l a i)]) = scA l 0 0 [] [] from by rw [← HS.out, hst, hn]; rfl)
              obtain ⟨n, hsv⟩ : ∃ n, sv (seg l a i) = n := ⟨_, rfl⟩
              have CN := Lib.hid (fun W => Number_yes (s := s.extract a i) (l := seg l a i) hse hn hsv W)
              rw [hsv] at HS2
              have HSV := Lib.hid hsv
              clear HS hn hse hsv
              go_wp2_with (first
                | (go_at_call 24; (with_reducible refine (CN.out _).mono ?_); rintro e w2 ⟨rfl, hb2⟩; replace P0 := Lib.hid (P0.out.step hb2); clear kB; obtain ⟨r0, r1, r2, r3, r4, r5, r6, r7, r8, r9⟩ := P0.out.open_; have kB := P0.out.bel)
                | (at_builtin; refine wpList_append_own_at _ rfl (.tmp 73) (.tmp 75) 31 rfl B 2 j0 (.int .i64 0) 1 8 Tryd.underlying31 hj hy0 hy1 hy2 rfl (by decide) _ _ _ rfl (World.ownsRow.alloc P0.out.oy _) ⟨_, 0, none⟩ 1 1 [.int .i64 _] rfl rfl (one_cellsG (by simp) _ _) (one_one _) (by have := hln.out; unfold maxLen; omega) (by have := hln.out; omega) (by have := P0.out.sz; simp at this ⊢; omega) ?_; intro vx' waox hown hgrow hnil hat; obtain ⟨gvx, cvx, rfl⟩ := ownsRow_succ hown; have G := P0.out.grow hgrow (own_ge P0.out.oy); obtain ⟨m0, m1, m2, m3, m4⟩ := mid_open G.2.2.2.1; replace P0 := Lib.hid (P0.out.appY hown hgrow hat); clear G hown hgrow hnil hat))
              exact ⟨⟨i + 1, i + 1, X, Y ++ [n], .slice a1 X.length d1, .slice (some ⟨gvx, 0, none⟩) (Y.length + 1) cvx, by omega, by omega, by push_cast; rfl, by push_cast; rfl, HS2.out, P0.out, by omega, by simp; omega⟩, by simp [intOf]; omega⟩
          · have d3' : ((s[i].toNat : Int) != 32) = true := neU h32
            rw [if_pos (show i < l.length ∧ s[i] ≠ 58 ∧ s[i] ≠ 32 from ⟨by omega, h58, h32⟩)] at hst
            have HS2 := Lib.hid (show scA l (i + 1) a X Y = scA l 0 0 [] [] from by rw [← HS.out, hst])
            clear h58 h32 hc hst hse HS
            go_wp2_with fail
            exact ⟨⟨i + 1, a, X, Y, .slice a1 X.length d1, .slice a2 Y.length d2, by omega, by omega, rfl, by push_cast; rfl, HS2.out, P0.out, by omega, by omega⟩, by simp [intOf]; omega⟩
      · have c4 : ¬ (i : Int) < s.size := by omega
        rw [if_neg (fun q => by have := q.1; omega), if_neg (show ¬ (i < l.length ∧ l.getD i 0 = 58) from fun q => by have := q.1; omega)] at hst
        clear hc
        cases hn : isN (seg l a i) with
        | false =>
          have HPn := Lib.hid (show parP l = none from parP_r_none (by rw [← HS.out, hst, hn]; rfl))
          have CN := Lib.hid (fun W => Number_no (s := s.extract a i) (l := seg l a i) hse hn W)
          clear HS hn hse
          go_wp2_with (go_at_call 24; (with_reducible refine (CN.out _).mono ?_); rintro e w2 ⟨⟨v1, rfl⟩, hb2⟩; replace P0 := Lib.hid (P0.out.step hb2); clear kB; obtain ⟨r0, r1, r2, r3, r4, r5, r6, r7, r8, r9⟩ := P0.out.open_; have kB := P0.out.bel)
          exact bodyPost_ret (v := .tuple #[.agg #[.slice none 0 0, .slice none 0 0], .int .i64 8]) (by simp only [results, Tryd.results13]; go_simp) rfl ⟨_, _, _, rfl, .inr ⟨HPn.out, rfl, rfl, rfl⟩, (by repeat' (first | exact Below.refl _ _ | assumption | apply bDrewN | apply bDrew | apply bAlloc | (refine bSet ?_ ?_ _) | (refine bStep ?_ (by assumption)) | omega | (simp <;> omega)))⟩
        | true =>
          have HS2 := Lib.hid (show scA l (i + 1) (i + 1) X (Y ++ [sv (seg l a i)]) = scA l 0 0 [] [] from by rw [← HS.out, hst, hn]; rfl)
          obtain ⟨n, hsv⟩ : ∃ n, sv (seg l a i) = n := ⟨_, rfl⟩
          have CN := Lib.hid (fun W => Number_yes (s := s.extract a i) (l := seg l a i) hse hn hsv W)
          rw [hsv] at HS2
          have HSV := Lib.hid hsv
          clear HS hn hse hsv
          go_wp2_with (first
            | (go_at_call 24; (with_reducible refine (CN.out _).mono ?_); rintro e w2 ⟨rfl, hb2⟩; replace P0 := Lib.hid (P0.out.step hb2); clear kB; obtain ⟨r0, r1, r2, r3, r4, r5, r6, r7, r8, r9⟩ := P0.out.open_; have kB := P0.out.bel)
            | (at_builtin; refine wpList_append_own_at _ rfl (.tmp 73) (.tmp 75) 31 rfl B 2 j0 (.int .i64 0) 1 8 Tryd.underlying31 hj hy0 hy1 hy2 rfl (by decide) _ _ _ rfl (World.ownsRow.alloc P0.out.oy _) ⟨_, 0, none⟩ 1 1 [.int .i64 _] rfl rfl (one_cellsG (by simp) _ _) (one_one _) (by have := hln.out; unfold maxLen; omega) (by have := hln.out; omega) (by have := P0.out.sz; simp at this ⊢; omega) ?_; intro vx' waox hown hgrow hnil hat; obtain ⟨gvx, cvx, rfl⟩ := ownsRow_succ hown; have G := P0.out.grow hgrow (own_ge P0.out.oy); obtain ⟨m0, m1, m2, m3, m4⟩ := mid_open G.2.2.2.1; replace P0 := Lib.hid (P0.out.appY hown hgrow hat); clear G hown hgrow hnil hat))
          exact ⟨⟨i + 1, i + 1, X, Y ++ [n], .slice a1 X.length d1, .slice (some ⟨gvx, 0, none⟩) (Y.length + 1) cvx, by omega, by omega, by push_cast; rfl, by push_cast; rfl, HS2.out, P0.out, by omega, by simp; omega⟩, by simp [intOf]; omega⟩
    · have hend : scA l 0 0 [] [] = some (X, Y) := by rw [← HS.out]; exact scA_end hc
      have hx : ¬ (i : Int) ≤ s.size ∨ ((i : Int) ≤ s.size ∧ ¬ (X.length : Int) ≤ 64) ∨ ((i : Int) ≤ s.size ∧ (X.length : Int) ≤ 64 ∧ ¬ (Y.length : Int) ≤ 64) := by omega
      have HA := Lib.hid hA
      have HB := Lib.hid hB
      have CT := Lib.hid (fun W h1 h2 => RCurveText_any a1 a2 d1 d2 X Y W (by omega) (by omega) h1 h2)
      clear hA hB hc PP HS
      by_cases hk : checkC X Y = 0
      · rw [tcS_ok hk] at CT
        dsimp only at CT
        by_cases ht : textC X Y = l
        · have HP := Lib.hid (show parP l = some (X.zip Y) from parP_r_some hk ht)
          obtain ⟨-, z1, z2⟩ := ok_zip hk
          have HZ1 := Lib.hid z1
          have HZ2 := Lib.hid z2
          have e : (ByteArray.mk (textC X Y).toArray) = s := ba_inj (by rw [HLS.out, ht])
          rw [e] at CT
          clear hk ht hend e z1 z2
          rcases hx with hx | ⟨hx, hx2⟩ | ⟨hx, hx2, hx3⟩
          all_goals
            go_wp2_with (go_at_call 11; (with_reducible refine (CT.out _ HA.out HB.out).mono ?_); rintro e w2 ⟨rfl, hb2⟩; replace P0 := Lib.hid (P0.out.step hb2); clear kB; obtain ⟨r0, r1, r2, r3, r4, r5, r6, r7, r8, r9⟩ := P0.out.open_; have kB := P0.out.bel)
            exact bodyPost_ret (v := .tuple #[.agg #[.slice a1 X.length d1, .slice a2 Y.length d2], .int .i64 0]) (by simp only [results, Tryd.results13]; go_simp) rfl ⟨_, _, _, rfl, .inl ⟨X.zip Y, HP.out, rfl, by rw [HZ1.out]; exact P0.out.done.1, by rw [HZ2.out]; exact P0.out.done.2⟩, (by repeat' (first | exact Below.refl _ _ | assumption | apply bDrewN | apply bDrew | apply bAlloc | (refine bSet ?_ ?_ _) | (refine bStep ?_ (by assumption)) | omega | (simp <;> omega)))⟩
        · have HPn := Lib.hid (show parP l = none from parP_r_bad hend (fun q => ht q.2))
          have hne : ¬ (ByteArray.mk (textC X Y).toArray).toList = s.toList := ba_nl fun e => ht (by rw [← HLS.out, ← e])
          generalize (ByteArray.mk (textC X Y).toArray) = tt at *
          have hne2 : (!(tt.toList == s.toList)) = true := by rw [beq_false_of_ne hne]; rfl
          clear hk ht hend
          rcases hx with hx | ⟨hx, hx2⟩ | ⟨hx, hx2, hx3⟩
          all_goals
            go_wp2_with (go_at_call 11; (with_reducible refine (CT.out _ HA.out HB.out).mono ?_); rintro e w2 ⟨rfl, hb2⟩; replace P0 := Lib.hid (P0.out.step hb2); clear kB; obtain ⟨r0, r1, r2, r3, r4, r5, r6, r7, r8, r9⟩ := P0.out.open_; have kB := P0.out.bel)
            exact bodyPost_ret (v := .tuple #[.agg #[.slice none 0 0, .slice none 0 0], .int .i64 8]) (by simp only [results, Tryd.results13]; go_simp) rfl ⟨_, _, _, rfl, .inr ⟨HPn.out, rfl, rfl, rfl⟩, (by repeat' (first | exact Below.refl _ _ | assumption | apply bDrewN | apply bDrew | apply bAlloc | (refine bSet ?_ ?_ _) | (refine bStep ?_ (by assumption)) | omega | (simp <;> omega)))⟩
      · have HPn := Lib.hid (show parP l = none from parP_r_bad hend (fun q => hk q.1))
        have hk2 : (checkC X Y != 0) = true := by simpa using hk
        rw [tcS_no hk] at CT
        dsimp only at CT
        generalize checkC X Y = kk at *
        clear hk hend
        rcases hx with hx | ⟨hx, hx2⟩ | ⟨hx, hx2, hx3⟩
        all_goals
          go_wp2_with (go_at_call 11; (with_reducible refine (CT.out _ HA.out HB.out).mono ?_); rintro e w2 ⟨rfl, hb2⟩; replace P0 := Lib.hid (P0.out.step hb2); clear kB; obtain ⟨r0, r1, r2, r3, r4, r5, r6, r7, r8, r9⟩ := P0.out.open_; have kB := P0.out.bel)
          exact bodyPost_ret (v := .tuple #[.agg #[.slice none 0 0, .slice none 0 0], .int .i64 8]) (by simp only [results, Tryd.results13]; go_simp) rfl ⟨_, _, _, rfl, .inr ⟨HPn.out, rfl, rfl, rfl⟩, (by repeat' (first | exact Below.refl _ _ | assumption | apply bDrewN | apply bDrew | apply bAlloc | (refine bSet ?_ ?_ _) | (refine bStep ?_ (by assumption)) | omega | (simp <;> omega)))⟩
end Go.Proofs.YtolnbblikfpnbaaDoor

/-
  SameCurve; what the texts of curves are, for the law.
-/
set_option linter.unusedSimpArgs false
set_option linter.unusedVariables false
namespace Go.Proofs.YtolnbblikfpnbaaDoor
open Sx Go.RowKit
theorem Same_eq (a b : Option Addr) (ca cb : Nat) (l : List Int) (w : World) (hl : l.length ≤ 1000000) (hA : IntAt a l w) (hB : IntAt b l w) :
    Calls Tryd.prog 29 #[.slice a l.length ca, .slice b l.length cb] w fun e w' => e = .returned (.bool true) ∧ Below w.heap.size w w' := by
  have h := SameI_row a b ca cb l l w hl hl hA hB
  rw [decide_eq_true rfl] at h
  exact h
set_option maxHeartbeats 1000000 in
set_option maxRecDepth 20000 in
theorem SameCurve_eq (a b a' b' : Option Addr) (ca cb ca' cb' : Nat) (xs ys : List Int) (w : World) (hx : xs.length ≤ 1000000) (hy : ys.length ≤ 1000000) (hA : IntAt a xs w) (hB : IntAt b ys w) (hA' : IntAt a' xs w) (hB' : IntAt b' ys w) :
    Calls Tryd.prog 14 #[.agg #[.slice a xs.length ca, .slice b ys.length cb], .agg #[.slice a' xs.length ca', .slice b' ys.length cb']] w fun e w' => e = .returned (.bool true) ∧ Below w.heap.size w w' := by
  have SX := Lib.hid (fun W h1 h2 => Same_eq a a' ca ca' xs W hx h1 h2)
  have SY := Lib.hid (fun W h1 h2 => Same_eq b b' cb cb' ys W hy h1 h2)
  have HA := Lib.hid hA
  have HB := Lib.hid hB
  have HA' := Lib.hid hA'
  have HB' := Lib.hid hB'
  clear hA hB hA' hB' hx hy
  have B1 := Lib.hid (blk_alloc (o := .cells #[.slice a' xs.length ca', .slice b' ys.length cb'] 33) (blk_new w (.cells #[.slice a xs.length ca, .slice b ys.length cb] 33)))
  have hB2 : ((w.alloc (.cells #[.slice a xs.length ca, .slice b ys.length cb] 33)).alloc (.cells #[.slice a' xs.length ca', .slice b' ys.length cb'] 33)).heap[w.heap.size + 1]? = some (.cells #[.slice a' xs.length ca', .slice b' ys.length cb'] 33) := by
    have := blk_new (w.alloc (.cells #[.slice a xs.length ca, .slice b ys.length cb] 33)) (.cells #[.slice a' xs.length ca', .slice b' ys.length cb'] 33)
    simpa using this
  have B2 := Lib.hid hB2
  clear hB2
  go_enter Tryd.func14, Tryd.ntmps14
  go_wp2_with (first
    | (go_at_call 29; (with_reducible refine (SX.out _ (HA.out.step (by repeat' (first | exact Below.refl _ _ | assumption | apply bDrewN | apply bDrew | apply bAlloc | (refine bSet ?_ ?_ _) | (refine bStep ?_ (by assumption)) | omega | (simp <;> omega)))) (HA'.out.step (by repeat' (first | exact Below.refl _ _ | assumption | apply bDrewN | apply bDrew | apply bAlloc | (refine bSet ?_ ?_ _) | (refine bStep ?_ (by assumption)) | omega | (simp <;> omega))))).mono ?_); rintro e w1 ⟨rfl, hb1⟩; obtain ⟨c0, c1, k0⟩ := cv_open (blk_step B1.out hb1); obtain ⟨d0, d1, k1⟩ := cv_open (blk_step B2.out hb1))
    | (go_at_call 29; (with_reducible refine (SY.out _ (HB.out.step (by repeat' (first | exact Below.refl _ _ | assumption | apply bDrewN | apply bDrew | apply bAlloc | (refine bSet ?_ ?_ _) | (refine bStep ?_ (by assumption)) | omega | (simp <;> omega)))) (HB'.out.step (by repeat' (first | exact Below.refl _ _ | assumption | apply bDrewN | apply bDrew | apply bAlloc | (refine bSet ?_ ?_ _) | (refine bStep ?_ (by assumption)) | omega | (simp <;> omega))))).mono ?_); rintro e w2 ⟨rfl, hb2⟩))
  go_ret
  exact ⟨rfl, (by repeat' (first | exact Below.refl _ _ | assumption | apply bDrewN | apply bDrew | apply bAlloc | (refine bSet ?_ ?_ _) | (refine bStep ?_ (by assumption)) | omega | (simp <;> omega)))⟩
/-- What CurveParse answers, in plain words. -/
noncomputable def cR (l : List UInt8) : (List Int × List Int) × Int := match parP l with
  | some ps => ((ps.map (·.1), ps.map (·.2)), 0)
  | none => (([], []), 8)
theorem CpR.row {l : List UInt8} {vx vy : Value} {er : Int} {W : World} (h : CpR l vx vy er W) : ∃ a1 c1 a2 c2, vx = .slice a1 (cR l).1.1.length c1 ∧ vy = .slice a2 (cR l).1.2.length c2 ∧ er = (cR l).2 ∧ IntAt a1 (cR l).1.1 W ∧ IntAt a2 (cR l).1.2 W := by
  unfold cR
  rcases h with ⟨ps, hp, rfl, ⟨a1, c1, rfl, h1⟩, ⟨a2, c2, rfl, h2⟩⟩ | ⟨hp, rfl, rfl, rfl⟩
  · rw [hp]
    exact ⟨a1, c1, a2, c2, rfl, rfl, rfl, h1, h2⟩
  · rw [hp]
    exact ⟨none, 0, none, 0, rfl, rfl, rfl, fun h => absurd rfl h, fun h => absurd rfl h⟩
theorem cR_text {xs ys : List Int} (h : checkC xs ys = 0) : cR (textC xs ys) = ((xs, ys), 0) := by
  obtain ⟨h1, h2, h3⟩ := ok_zip h
  unfold cR
  rw [show parP (textC xs ys) = some (xs.zip ys) from parP_some h1]
  dsimp only
  rw [h2, h3]
theorem cR_len {l : List UInt8} : (cR l).1.1.length ≤ 64 ∧ (cR l).1.2.length ≤ 64 := by
  unfold cR
  by_cases hx : ∃ ps, okL ps ∧ l = textP ps
  · obtain ⟨ps, hp, rfl⟩ := hx
    rw [parP_some hp]
    have := okL_len hp
    simp only [List.length_map]
    omega
  · rw [parP_none (fun p h1 h2 => hx ⟨p, h1, h2⟩)]
    simp
theorem textC_small {xs ys : List Int} (h : checkC xs ys = 0) : (ByteArray.mk (textC xs ys).toArray).size ≤ 10000 := by
  obtain ⟨q1, q2, ⟨q3, q4, q5, q6⟩, -⟩ := okC_iff.1 h
  have h1 := tS_len (xs := xs) (ys := ys) (fun j => ⟨(isQ_iff _).2 (allQ_getD q5 j), (isQ_iff _).2 (allQ_getD q6 j)⟩) xs.length
  rw [tS_all q3] at h1
  rw [Lib.size_eq]
  simp only [List.toList_toArray]
  omega
theorem CParse_any (s : ByteArray) (w : World) (hs : s.size ≤ 10000) (hG : Glob0 w) :
    Calls Tryd.prog 12 #[.string s] w fun e w' => (∃ a1 c1 a2 c2, e = .returned (.tuple #[.agg #[.slice a1 (cR s.data.toList).1.1.length c1, .slice a2 (cR s.data.toList).1.2.length c2], .int .i64 (cR s.data.toList).2]) ∧ IntAt a1 (cR s.data.toList).1.1 w' ∧ IntAt a2 (cR s.data.toList).1.2 w') ∧ Below w.heap.size w w' :=
  (CurveParse_any s w hs hG).mono fun e w' h => by
    obtain ⟨vx, vy, er, rfl, hc, hb⟩ := h
    obtain ⟨a1, c1, a2, c2, rfl, rfl, rfl, h1, h2⟩ := hc.row
    exact ⟨⟨a1, c1, a2, c2, rfl, h1, h2⟩, hb⟩
theorem RParseC_any (s : ByteArray) (w : World) (hs : s.size ≤ 10000) :
    Calls Tryd.prog 13 #[.string s] w fun e w' => (∃ a1 c1 a2 c2, e = .returned (.tuple #[.agg #[.slice a1 (cR s.data.toList).1.1.length c1, .slice a2 (cR s.data.toList).1.2.length c2], .int .i64 (cR s.data.toList).2]) ∧ IntAt a1 (cR s.data.toList).1.1 w' ∧ IntAt a2 (cR s.data.toList).1.2 w') ∧ Below w.heap.size w w' :=
  (RCurveParse_any s w hs).mono fun e w' h => by
    obtain ⟨vx, vy, er, rfl, hc, hb⟩ := h
    obtain ⟨a1, c1, a2, c2, rfl, rfl, rfl, h1, h2⟩ := hc.row
    exact ⟨⟨a1, c1, a2, c2, rfl, h1, h2⟩, hb⟩
end Go.Proofs.YtolnbblikfpnbaaDoor

/-
  QuantityCurveTexts: the walk.
-/
set_option linter.unusedSimpArgs false
set_option linter.unusedVariables false
namespace Go.Proofs.YtolnbblikfpnbaaDoor
open Sx Go.RowKit
set_option maxHeartbeats 2000000 in
set_option maxRecDepth 20000 in
theorem QuantityCurveTexts_walk (a b : Option Addr) (ca cb : Nat) (xs ys : List Int) (s : ByteArray) (w : World) (hA : IntAt a xs w) (hB : IntAt b ys w) (hG : Glob0 w) :
    Calls Tryd.prog 4 #[.agg #[.slice a xs.length ca, .slice b ys.length cb], .string s] w fun e w' => e = .returned (.bool true) ∧ Below w.heap.size w w' := by
  have CW := Lib.hid (fun W => works_any W)
  have HG := Lib.hid hG
  have HA := Lib.hid hA
  have HB := Lib.hid hB
  clear hA hB hG
  by_cases hl : 200 < xs.length ∨ 200 < ys.length ∨ 5000 < s.size
  · have hl2 : 200 < (xs.length : Int) ∨ (¬ 200 < (xs.length : Int) ∧ 200 < (ys.length : Int)) ∨ (¬ 200 < (xs.length : Int) ∧ ¬ 200 < (ys.length : Int) ∧ 5000 < (s.size : Int)) := by omega
    clear hl HA HB HG
    generalize xs.length = lx at *
    generalize ys.length = ly at *
    rcases hl2 with h1 | ⟨h1, h2⟩ | ⟨h1, h2, h3⟩
    all_goals
      go_enter Tryd.func4, Tryd.ntmps4
      go_wp2_with (go_at_call 5; refine (CW.out _).mono ?_; rintro e w1 ⟨rfl, hb1⟩)
      go_ret
      exact ⟨rfl, (by repeat' (first | exact Below.refl _ _ | assumption | apply bDrewN | apply bDrew | apply bAlloc | (refine bSet ?_ ?_ _) | (refine bStep ?_ (by assumption)) | omega | (simp <;> omega)))⟩
  · have l1 : ¬ 200 < (xs.length : Int) := by omega
    have l2 : ¬ 200 < (ys.length : Int) := by omega
    have l3 : ¬ 5000 < (s.size : Int) := by omega
    have T1 := Lib.hid (fun W hG h1 h2 => CurveText_any a b ca cb xs ys W hG (by omega) (by omega) h1 h2)
    have T2 := Lib.hid (fun W h1 h2 => RCurveText_any a b ca cb xs ys W (by omega) (by omega) h1 h2)
    have P1 := Lib.hid (fun W hG => CParse_any s W (by omega) hG)
    have P2 := Lib.hid (fun W => RParseC_any s W (by omega))
    have hln := cR_len (l := s.data.toList)
    rcases hr : cR s.data.toList with ⟨⟨X, Y⟩, er⟩
    rw [hr] at P1 P2 hln
    dsimp only at P1 P2 hln
    have SC1 := Lib.hid (fun W a1 c1 a2 c2 a3 c3 a4 c4 h1 h2 h3 h4 => SameCurve_eq a1 a2 a3 a4 c1 c2 c3 c4 X Y W (by omega) (by omega) h1 h2 h3 h4)
    clear hr hl hln
    by_cases hk : checkC xs ys = 0
    · rw [tcS_ok hk] at T1 T2
      dsimp only at T1 T2
      have P3 := Lib.hid (fun W hG => CParse_any ⟨(textC xs ys).toArray⟩ W (textC_small hk) hG)
      have SC2 := Lib.hid (fun W a1 c1 a2 c2 a3 c3 a4 c4 h1 h2 h3 h4 => SameCurve_eq a1 a2 a3 a4 c1 c2 c3 c4 xs ys W (by omega) (by omega) h1 h2 h3 h4)
      rw [show (ByteArray.mk (textC xs ys).toArray).data.toList = textC xs ys from rfl, cR_text hk] at P3
      dsimp only at P3
      generalize (ByteArray.mk (textC xs ys).toArray) = t at *
      clear hk
      have B0 := Lib.hid (blk_new w (.cells #[.slice a xs.length ca, .slice b ys.length cb] 33))
      go_enter Tryd.func4, Tryd.ntmps4
      go_wp2_with (first
        | (go_at_call 10; refine (T1.out _ (gstep HG.out (by repeat' (first | exact Below.refl _ _ | assumption | apply bDrewN | apply bDrew | apply bAlloc | (refine bSet ?_ ?_ _) | (refine bStep ?_ (by assumption)) | omega | (simp <;> omega)))) (HA.out.step (by repeat' (first | exact Below.refl _ _ | assumption | apply bDrewN | apply bDrew | apply bAlloc | (refine bSet ?_ ?_ _) | (refine bStep ?_ (by assumption)) | omega | (simp <;> omega)))) (HB.out.step (by repeat' (first | exact Below.refl _ _ | assumption | apply bDrewN | apply bDrew | apply bAlloc | (refine bSet ?_ ?_ _) | (refine bStep ?_ (by assumption)) | omega | (simp <;> omega))))).mono ?_; rintro e w1 ⟨rfl, hb1⟩; replace B0 := Lib.hid (blk_step B0.out hb1); obtain ⟨c0, c1, k0⟩ := cv_open B0.out)
        | (go_at_call 11; refine (T2.out _ (HA.out.step (by repeat' (first | exact Below.refl _ _ | assumption | apply bDrewN | apply bDrew | apply bAlloc | (refine bSet ?_ ?_ _) | (refine bStep ?_ (by assumption)) | omega | (simp <;> omega)))) (HB.out.step (by repeat' (first | exact Below.refl _ _ | assumption | apply bDrewN | apply bDrew | apply bAlloc | (refine bSet ?_ ?_ _) | (refine bStep ?_ (by assumption)) | omega | (simp <;> omega))))).mono ?_; rintro e w2 ⟨rfl, hb2⟩; replace B0 := Lib.hid (blk_step B0.out hb2); obtain ⟨c0, c1, k0⟩ := cv_open B0.out)
        | (go_at_call 12; (with_reducible refine (P1.out _ (gstep HG.out (by repeat' (first | exact Below.refl _ _ | assumption | apply bDrewN | apply bDrew | apply bAlloc | (refine bSet ?_ ?_ _) | (refine bStep ?_ (by assumption)) | omega | (simp <;> omega))))).mono ?_); rintro e w3 ⟨⟨a1, d1, a2, d2, rfl, hX1, hY1⟩, hb3⟩; have HX1 := Lib.hid hX1; have HY1 := Lib.hid hY1; clear hX1 hY1; replace B0 := Lib.hid (blk_step B0.out hb3); obtain ⟨c0, c1, k0⟩ := cv_open B0.out)
        | (go_at_call 13; refine (P2.out _).mono ?_; rintro e w4 ⟨⟨a3, d3, a4, d4, rfl, hX2, hY2⟩, hb4⟩; have HX2 := Lib.hid hX2; have HY2 := Lib.hid hY2; clear hX2 hY2; replace B0 := Lib.hid (blk_step (blk_alloc B0.out) hb4); obtain ⟨c0, c1, k0⟩ := cv_open B0.out; obtain ⟨e0, e1, k1⟩ := cv_open (blk_step (blk_new w3 (.cells #[.slice a1 X.length d1, .slice a2 Y.length d2] 33)) hb4))
        | (go_at_call 14; (with_reducible refine (SC1.out _ _ _ _ _ _ _ _ _ (HX1.out.step (by repeat' (first | exact Below.refl _ _ | assumption | apply bDrewN | apply bDrew | apply bAlloc | (refine bSet ?_ ?_ _) | (refine bStep ?_ (by assumption)) | omega | (simp <;> omega)))) (HY1.out.step (by repeat' (first | exact Below.refl _ _ | assumption | apply bDrewN | apply bDrew | apply bAlloc | (refine bSet ?_ ?_ _) | (refine bStep ?_ (by assumption)) | omega | (simp <;> omega)))) (HX2.out.step (by repeat' (first | exact Below.refl _ _ | assumption | apply bDrewN | apply bDrew | apply bAlloc | (refine bSet ?_ ?_ _) | (refine bStep ?_ (by assumption)) | omega | (simp <;> omega)))) (HY2.out.step (by repeat' (first | exact Below.refl _ _ | assumption | apply bDrewN | apply bDrew | apply bAlloc | (refine bSet ?_ ?_ _) | (refine bStep ?_ (by assumption)) | omega | (simp <;> omega))))).mono ?_); rintro e w5 ⟨rfl, hb5⟩; replace B0 := Lib.hid (blk_step (blk_alloc B0.out) hb5); obtain ⟨c0, c1, k0⟩ := cv_open B0.out)
        | (go_at_call 12; (with_reducible refine (P3.out _ (gstep HG.out (by repeat' (first | exact Below.refl _ _ | assumption | apply bDrewN | apply bDrew | apply bAlloc | (refine bSet ?_ ?_ _) | (refine bStep ?_ (by assumption)) | omega | (simp <;> omega))))).mono ?_); rintro e w6 ⟨⟨a5, d5, a6, d6, rfl, hX3, hY3⟩, hb6⟩; have HX3 := Lib.hid hX3; have HY3 := Lib.hid hY3; clear hX3 hY3; replace B0 := Lib.hid (blk_step B0.out hb6); obtain ⟨c0, c1, k0⟩ := cv_open B0.out)
        | (go_at_call 14; (with_reducible refine (SC2.out _ _ _ _ _ _ _ _ _ (HX3.out.step (by repeat' (first | exact Below.refl _ _ | assumption | apply bDrewN | apply bDrew | apply bAlloc | (refine bSet ?_ ?_ _) | (refine bStep ?_ (by assumption)) | omega | (simp <;> omega)))) (HY3.out.step (by repeat' (first | exact Below.refl _ _ | assumption | apply bDrewN | apply bDrew | apply bAlloc | (refine bSet ?_ ?_ _) | (refine bStep ?_ (by assumption)) | omega | (simp <;> omega)))) (HA.out.step (by repeat' (first | exact Below.refl _ _ | assumption | apply bDrewN | apply bDrew | apply bAlloc | (refine bSet ?_ ?_ _) | (refine bStep ?_ (by assumption)) | omega | (simp <;> omega)))) (HB.out.step (by repeat' (first | exact Below.refl _ _ | assumption | apply bDrewN | apply bDrew | apply bAlloc | (refine bSet ?_ ?_ _) | (refine bStep ?_ (by assumption)) | omega | (simp <;> omega))))).mono ?_); rintro e w7 ⟨rfl, hb7⟩)
        | (go_at_call 5; refine (CW.out _).mono ?_; rintro e w8 ⟨rfl, hb8⟩))
      all_goals (go_ret; exact ⟨rfl, (by repeat' (first | exact Below.refl _ _ | assumption | apply bDrewN | apply bDrew | apply bAlloc | (refine bSet ?_ ?_ _) | (refine bStep ?_ (by assumption)) | omega | (simp <;> omega)))⟩)
    · have hk2 : (checkC xs ys == 0) = false := beq_false_of_ne hk
      rw [tcS_no hk] at T1 T2
      dsimp only at T1 T2
      generalize checkC xs ys = kk at *
      clear hk
      have B0 := Lib.hid (blk_new w (.cells #[.slice a xs.length ca, .slice b ys.length cb] 33))
      go_enter Tryd.func4, Tryd.ntmps4
      go_wp2_with (first
        | (go_at_call 10; refine (T1.out _ (gstep HG.out (by repeat' (first | exact Below.refl _ _ | assumption | apply bDrewN | apply bDrew | apply bAlloc | (refine bSet ?_ ?_ _) | (refine bStep ?_ (by assumption)) | omega | (simp <;> omega)))) (HA.out.step (by repeat' (first | exact Below.refl _ _ | assumption | apply bDrewN | apply bDrew | apply bAlloc | (refine bSet ?_ ?_ _) | (refine bStep ?_ (by assumption)) | omega | (simp <;> omega)))) (HB.out.step (by repeat' (first | exact Below.refl _ _ | assumption | apply bDrewN | apply bDrew | apply bAlloc | (refine bSet ?_ ?_ _) | (refine bStep ?_ (by assumption)) | omega | (simp <;> omega))))).mono ?_; rintro e w1 ⟨rfl, hb1⟩; replace B0 := Lib.hid (blk_step B0.out hb1); obtain ⟨c0, c1, k0⟩ := cv_open B0.out)
        | (go_at_call 11; refine (T2.out _ (HA.out.step (by repeat' (first | exact Below.refl _ _ | assumption | apply bDrewN | apply bDrew | apply bAlloc | (refine bSet ?_ ?_ _) | (refine bStep ?_ (by assumption)) | omega | (simp <;> omega)))) (HB.out.step (by repeat' (first | exact Below.refl _ _ | assumption | apply bDrewN | apply bDrew | apply bAlloc | (refine bSet ?_ ?_ _) | (refine bStep ?_ (by assumption)) | omega | (simp <;> omega))))).mono ?_; rintro e w2 ⟨rfl, hb2⟩; replace B0 := Lib.hid (blk_step B0.out hb2); obtain ⟨c0, c1, k0⟩ := cv_open B0.out)
        | (go_at_call 12; (with_reducible refine (P1.out _ (gstep HG.out (by repeat' (first | exact Below.refl _ _ | assumption | apply bDrewN | apply bDrew | apply bAlloc | (refine bSet ?_ ?_ _) | (refine bStep ?_ (by assumption)) | omega | (simp <;> omega))))).mono ?_); rintro e w3 ⟨⟨a1, d1, a2, d2, rfl, hX1, hY1⟩, hb3⟩; have HX1 := Lib.hid hX1; have HY1 := Lib.hid hY1; clear hX1 hY1; replace B0 := Lib.hid (blk_step B0.out hb3); obtain ⟨c0, c1, k0⟩ := cv_open B0.out)
        | (go_at_call 13; refine (P2.out _).mono ?_; rintro e w4 ⟨⟨a3, d3, a4, d4, rfl, hX2, hY2⟩, hb4⟩; have HX2 := Lib.hid hX2; have HY2 := Lib.hid hY2; clear hX2 hY2; replace B0 := Lib.hid (blk_step (blk_alloc B0.out) hb4); obtain ⟨c0, c1, k0⟩ := cv_open B0.out; obtain ⟨e0, e1, k1⟩ := cv_open (blk_step (blk_new w3 (.cells #[.slice a1 X.length d1, .slice a2 Y.length d2] 33)) hb4))
        | (go_at_call 14; (with_reducible refine (SC1.out _ _ _ _ _ _ _ _ _ (HX1.out.step (by repeat' (first | exact Below.refl _ _ | assumption | apply bDrewN | apply bDrew | apply bAlloc | (refine bSet ?_ ?_ _) | (refine bStep ?_ (by assumption)) | omega | (simp <;> omega)))) (HY1.out.step (by repeat' (first | exact Below.refl _ _ | assumption | apply bDrewN | apply bDrew | apply bAlloc | (refine bSet ?_ ?_ _) | (refine bStep ?_ (by assumption)) | omega | (simp <;> omega)))) (HX2.out.step (by repeat' (first | exact Below.refl _ _ | assumption | apply bDrewN | apply bDrew | apply bAlloc | (refine bSet ?_ ?_ _) | (refine bStep ?_ (by assumption)) | omega | (simp <;> omega)))) (HY2.out.step (by repeat' (first | exact Below.refl _ _ | assumption | apply bDrewN | apply bDrew | apply bAlloc | (refine bSet ?_ ?_ _) | (refine bStep ?_ (by assumption)) | omega | (simp <;> omega))))).mono ?_); rintro e w5 ⟨rfl, hb5⟩; replace B0 := Lib.hid (blk_step (blk_alloc B0.out) hb5); obtain ⟨c0, c1, k0⟩ := cv_open B0.out)
        | (go_at_call 5; refine (CW.out _).mono ?_; rintro e w8 ⟨rfl, hb8⟩))
      all_goals (go_ret; exact ⟨rfl, (by repeat' (first | exact Below.refl _ _ | assumption | apply bDrewN | apply bDrew | apply bAlloc | (refine bSet ?_ ?_ _) | (refine bStep ?_ (by assumption)) | omega | (simp <;> omega)))⟩)
end Go.Proofs.YtolnbblikfpnbaaDoor
