/-
  The walk of the law ProtectFuses.
-/
import Derived.Test.YtgiinciclnekjaaMp
import Derived.Test.YtgiinciclnekjaaMf
import Derived.Test.YtgiinciclnekjaaMo
import Derived.Test.YtgiinciclnekjaaWt5
import Derived.WalkKit
import Derived.Maps.AppendAt
set_option linter.unusedSimpArgs false
set_option linter.unusedVariables false
namespace Go.Proofs.Ytgiinciclnekjaa
open Go.RowKit

def Far (u v : Value) : Prop := ∀ k, u.ownBlock = some k → v.ownBlock = some k → False
theorem Far.symm {u v : Value} (h : Far u v) : Far v u := fun k h1 h2 => h k h2 h1
theorem Far.ne {u v : Value} (h : Far u v) : u.ownBlock = none ∨ u.ownBlock ≠ v.ownBlock := by
  cases hu : u.ownBlock with
  | none => exact Or.inl rfl
  | some k => exact Or.inr fun e => h k hu e.symm
theorem Far.nil {v : Value} : Far (.slice none 0 0) v := fun k h => by cases h
/-- Three rows of numbers, none of which lies in another one's block. -/
def Tri (W : World) (B : Nat) (a b c : Value) (xs ys zs : List Int) : Prop := IntOwn W B a xs ∧ IntOwn W B b ys ∧ IntOwn W B c zs ∧ Far a b ∧ Far a c ∧ Far b c
theorem Tri.rot {W : World} {B : Nat} {a b c : Value} {xs ys zs : List Int} (h : Tri W B a b c xs ys zs) : Tri W B b c a ys zs xs := ⟨h.2.1, h.2.2.1, h.1, h.2.2.2.2.2, h.2.2.2.1.symm, h.2.2.2.2.1.symm⟩
theorem Tri.app {W w1 : World} {o : Obj} {B : Nat} {a b c a' : Value} {xs ys zs : List Int} {x : Int} (h : Tri W B a b c xs ys zs) (hown : w1.ownsRow B 2 1 a' (xs.length + 1) (flatI xs ++ [.int .i64 x])) (hg : (W.alloc o).grownBy w1 a.ownBlock)
    (hat : a'.ownBlock = a.ownBlock ∨ a'.ownBlock = some (W.alloc o).heap.size) : Tri w1 B a' b c (xs ++ [x]) ys zs := by
  obtain ⟨h1, h2, h3, h4, h5, h6⟩ := h
  have far : ∀ {v : Value} {ws : List Int}, IntOwn W B v ws → Far a v → Far a' v := fun hv hf k e1 e2 => by
    rcases hat with e | e
    · exact hf k (e.symm.trans e1) e2
    · have := (hv.lt k e2).2
      rw [e] at e1
      simp at e1
      omega
  exact ⟨IntOwn.more hown, World.ownsRow.kept (World.ownsRow.alloc h2 _) hg h4.symm.ne, World.ownsRow.kept (World.ownsRow.alloc h3 _) hg h5.symm.ne, far h2 h4, far h3 h5, h6⟩
theorem Tri.of {W : World} {B : Nat} {a b c : Value} {xs ys zs : List Int} {x y z x' y' z' : Int} (hx : x = x') (hy : y = y') (hz : z = z') (h : Tri W B a b c (xs ++ [x]) (ys ++ [y]) (zs ++ [z])) : Tri W B a b c (xs ++ [x']) (ys ++ [y']) (zs ++ [z']) := by
  subst hx; subst hy; subst hz; exact h
theorem below_up {B : Nat} {w w0 W : World} (h : Below w.heap.size w w0) (k : Below B w0 W) (hB : w.heap.size ≤ B) : Below w.heap.size w W := h.trans (k.mono hB)

set_option maxHeartbeats 4000000 in
set_option maxRecDepth 20000 in
theorem fuses_core (r m : Int) (a b : Option Addr) (c d : Nat) (L M : List Int) (w : World) (hl : L.length ≤ 9223372036854775807) (hm : M.length ≤ 9223372036854775807) (hr0 : 0 ≤ r) (hr : r ≤ 65535) (hm0 : 0 ≤ m) (hm1 : m ≤ 4294967295)
    (hL : ∀ i, -32768 ≤ L.getD i 0 ∧ L.getD i 0 ≤ 32767) (hM : ∀ i, 0 ≤ M.getD i 0 ∧ M.getD i 0 ≤ 255) (hA : NumAt .i16 a L w) (hB : NumAt .u8 b M w) :
    Calls Try.prog 6 #[.int .u16 r, .int .u32 m, .slice a L.length c, .slice b M.length d] w fun e w' => e = .returned (.bool true) ∧ Below w.heap.size w w' := by
  have HA := Lib.hid hA
  have HB := Lib.hid hB
  have HL := Lib.hid hL
  have HM := Lib.hid hM
  clear hA hB hL hM
  obtain ⟨j0, hj, hy0, hy1, hy2⟩ := info_parts infoI
  go_enter Try.func6, Try.ntmps6
  go_wp2_with fail
  have hS0 : (w.alloc (.cells #[.int .i64 r, .int .i64 (1 + m)] 54)).heap.size = w.heap.size + 1 := by simp
  have hf0 : Hid ((w.alloc (.cells #[.int .i64 r, .int .i64 (1 + m)] 54)).cell? ⟨w.heap.size, 0, none⟩ = some (.int .i64 r)) := by unfold Hid; simp
  have hg0 : Hid ((w.alloc (.cells #[.int .i64 r, .int .i64 (1 + m)] 54)).cell? ⟨w.heap.size, 1, none⟩ = some (.int .i64 (1 + m))) := by unfold Hid; simp
  have hB0 : Below w.heap.size w (w.alloc (.cells #[.int .i64 r, .int .i64 (1 + m)] 54)) := (by repeat' (first | exact Below.refl _ _ | assumption | apply bDrewN | apply bDrew | apply bAlloc | (refine bSet ?_ ?_ _) | (refine bStep ?_ (by assumption)) | omega | (simp <;> omega)))
  generalize w.alloc (.cells #[.int .i64 r, .int .i64 (1 + m)] 54) = w0 at *
  have hfz : w.heap.size < w0.heap.size := by omega
  go_loopw [10, 11, 12, 13] (fun a b c i wr => ∃ k : Nat, k ≤ L.length ∧ k ≤ 100 ∧ i = .int .i64 k ∧ Hid (Tri wr w0.heap.size a b c (asF L k) (bsF L M k) (csF r L k)) ∧ Below w0.heap.size w0 wr) (fun _ _ _ i _ => 100 - (intOf i).toNat)
  case atStart => exact ⟨0, by omega, by omega, rfl, ⟨IntOwn.nil, IntOwn.nil, IntOwn.nil, Far.nil, Far.nil, Far.nil⟩, Below.refl _ _⟩
  case round =>
    obtain ⟨k, hk, hk100, rfl, T0, kB⟩ := hrel
    by_cases hlt : k < L.length ∧ k < 100
    · obtain ⟨hlt, hlt2⟩ := hlt
      obtain ⟨bL, oL, rfl, hbL, hcL⟩ := HA.out (fun h => by rw [h] at hlt; simp at hlt)
      have e1 := ((below_up hB0 kB (by omega)).cell (p := ⟨bL, oL + k, none⟩) hbL).trans (hcL k hlt)
      have hx := HL.out k
      have hlen : Hid ((asF L k).length = k ∧ (bsF L M k).length = k ∧ (csF r L k).length = k) := ⟨asF_len _ _, bsF_len _ _ _, csF_len _ _ _⟩
      have HX := Lib.hid (asF_succ L k)
      have HY := Lib.hid (bsF_succ L M k)
      have HZ := Lib.hid (csF_succ r L k)
      generalize L.getD k 0 = x at *
      generalize asF L k = xs at *
      generalize bsF L M k = ys at *
      generalize csF r L k = zs at *
      obtain ⟨x1, x2⟩ := hx
      by_cases hkM : k < M.length
      · obtain ⟨bM, oM, rfl, hbM, hcM⟩ := HB.out (fun h => by rw [h] at hkM; simp at hkM)
        have HM1 := Lib.hid ((hB0.cell (p := ⟨bM, oM + k, none⟩) hbM).trans (hcM k hkM))
        have hbM' : bM < w0.heap.size := by omega
        have hy := HM.out k
        generalize M.getD k 0 = y at *
        obtain ⟨y1, y2⟩ := hy
        clear hcL hcM HA HB HL HM
        rcases Int.lt_or_le x 0 with hx0 | hx0
        all_goals
          go_wp2_with (first | (at_builtin; refine wpList_append_own_at _ rfl (.tmp 46) (.tmp 48) 49 rfl (w0.heap.size) 2 j0 (.int .i64 0) 1 8 Try.underlying49 hj hy0 hy1 hy2 rfl (by decide) _ _ _ rfl (World.ownsRow.alloc T0.out.1 _) ⟨wr.heap.size, 0, none⟩ 1 1 [.int .i64 _] rfl rfl (one_cells _ _ _) (one_one _) (by have := hlen.out; unfold maxLen; omega) (by have := hlen.out; omega) (by have := kB.size; simp; omega) ?_; intro a' wrn hown hgrow hnil hat; have T1 := Lib.hid (Tri.app T0.out hown hgrow hat); have kB1 : Below w0.heap.size w0 wrn := (bAlloc kB _).grown hgrow (by have := kB.size; simp; omega) (own_ge T0.out.1); have hc1 := (kB1.cell (p := ⟨bM, oM + k, none⟩) hbM').trans HM1.out; clear hown hgrow hnil hat T0 kB) | (at_builtin; refine wpList_append_own_at _ rfl (.tmp 63) (.tmp 67) 49 rfl (w0.heap.size) 2 j0 (.int .i64 0) 1 8 Try.underlying49 hj hy0 hy1 hy2 rfl (by decide) _ _ _ rfl (World.ownsRow.alloc T1.out.rot.1 _) ⟨wrn.heap.size, 0, none⟩ 1 1 [.int .i64 _] rfl rfl (one_cells _ _ _) (one_one _) (by have := hlen.out; unfold maxLen; omega) (by have := hlen.out; omega) (by have := kB1.size; simp; omega) ?_; intro b' wrnn hown hgrow hnil hat; have T2 := Lib.hid (Tri.app T1.out.rot hown hgrow hat); have kB2 : Below w0.heap.size w0 wrnn := (bAlloc kB1 _).grown hgrow (by have := kB1.size; simp; omega) (own_ge T1.out.rot.1); have hf1 := (kB2.cell (p := ⟨w.heap.size, 0, none⟩) hfz).trans hf0.out; clear hown hgrow hnil hat T1 kB1) | (at_builtin; refine wpList_append_own_at _ rfl (.tmp 69) (.tmp 78) 49 rfl (w0.heap.size) 2 j0 (.int .i64 0) 1 8 Try.underlying49 hj hy0 hy1 hy2 rfl (by decide) _ _ _ rfl (World.ownsRow.alloc T2.out.rot.1 _) ⟨wrnn.heap.size, 0, none⟩ 1 1 [.int .i64 _] rfl rfl (one_cells _ _ _) (one_one _) (by have := hlen.out; unfold maxLen; omega) (by have := hlen.out; omega) (by have := kB2.size; simp; omega) ?_; intro c' wrnnn hown hgrow hnil hat; have T3 := Lib.hid (Tri.app T2.out.rot hown hgrow hat); have kB3 : Below w0.heap.size w0 wrnnn := (bAlloc kB2 _).grown hgrow (by have := kB2.size; simp; omega) (own_ge T2.out.rot.1); skip; clear hown hgrow hnil hat T2 kB2))
          go_roundw
          case rel => exact ⟨k + 1, by omega, by omega, by go_num, by rw [HX.out, HY.out, HZ.out]; exact Tri.of rfl (by unfold bump; split <;> omega) (by unfold clampR; (repeat' split) <;> omega) T3.out.rot, kB3⟩
          case measure => (simp [intOf]; omega)
      · have hM0 : M.getD k 0 = 0 := by rw [List.getD_eq_getElem?_getD, List.getElem?_eq_none (by omega)]; rfl
        rw [hM0] at HY
        clear hcL HA HB HL HM hM0
        rcases Int.lt_or_le x 0 with hx0 | hx0
        all_goals
          go_wp2_with (first | (at_builtin; refine wpList_append_own_at _ rfl (.tmp 46) (.tmp 48) 49 rfl (w0.heap.size) 2 j0 (.int .i64 0) 1 8 Try.underlying49 hj hy0 hy1 hy2 rfl (by decide) _ _ _ rfl (World.ownsRow.alloc T0.out.1 _) ⟨wr.heap.size, 0, none⟩ 1 1 [.int .i64 _] rfl rfl (one_cells _ _ _) (one_one _) (by have := hlen.out; unfold maxLen; omega) (by have := hlen.out; omega) (by have := kB.size; simp; omega) ?_; intro a' wrn hown hgrow hnil hat; have T1 := Lib.hid (Tri.app T0.out hown hgrow hat); have kB1 : Below w0.heap.size w0 wrn := (bAlloc kB _).grown hgrow (by have := kB.size; simp; omega) (own_ge T0.out.1); skip; clear hown hgrow hnil hat T0 kB) | (at_builtin; refine wpList_append_own_at _ rfl (.tmp 63) (.tmp 67) 49 rfl (w0.heap.size) 2 j0 (.int .i64 0) 1 8 Try.underlying49 hj hy0 hy1 hy2 rfl (by decide) _ _ _ rfl (World.ownsRow.alloc T1.out.rot.1 _) ⟨wrn.heap.size, 0, none⟩ 1 1 [.int .i64 _] rfl rfl (one_cells _ _ _) (one_one _) (by have := hlen.out; unfold maxLen; omega) (by have := hlen.out; omega) (by have := kB1.size; simp; omega) ?_; intro b' wrnn hown hgrow hnil hat; have T2 := Lib.hid (Tri.app T1.out.rot hown hgrow hat); have kB2 : Below w0.heap.size w0 wrnn := (bAlloc kB1 _).grown hgrow (by have := kB1.size; simp; omega) (own_ge T1.out.rot.1); have hf1 := (kB2.cell (p := ⟨w.heap.size, 0, none⟩) hfz).trans hf0.out; clear hown hgrow hnil hat T1 kB1) | (at_builtin; refine wpList_append_own_at _ rfl (.tmp 69) (.tmp 78) 49 rfl (w0.heap.size) 2 j0 (.int .i64 0) 1 8 Try.underlying49 hj hy0 hy1 hy2 rfl (by decide) _ _ _ rfl (World.ownsRow.alloc T2.out.rot.1 _) ⟨wrnn.heap.size, 0, none⟩ 1 1 [.int .i64 _] rfl rfl (one_cells _ _ _) (one_one _) (by have := hlen.out; unfold maxLen; omega) (by have := hlen.out; omega) (by have := kB2.size; simp; omega) ?_; intro c' wrnnn hown hgrow hnil hat; have T3 := Lib.hid (Tri.app T2.out.rot hown hgrow hat); have kB3 : Below w0.heap.size w0 wrnnn := (bAlloc kB2 _).grown hgrow (by have := kB2.size; simp; omega) (own_ge T2.out.rot.1); skip; clear hown hgrow hnil hat T2 kB2))
          go_roundw
          case rel => exact ⟨k + 1, by omega, by omega, by go_num, by rw [HX.out, HY.out, HZ.out]; exact Tri.of rfl (by unfold bump; split <;> omega) (by unfold clampR; (repeat' split) <;> omega) T3.out.rot, kB3⟩
          case measure => (simp [intOf]; omega)
    · have hex : L.length ≤ k ∨ (k < L.length ∧ 100 ≤ k) := by omega
      clear hlt
      obtain ⟨A, B, C, q1, q2, q3, q4⟩ := fuses_law (r := r) (m := 1 + m) (L := L) (M := M) (n := k) hk100 hr0 hr (by omega) (by omega) HL.out HM.out
      obtain ⟨tA, tB, tC, -⟩ := T0.out
      obtain ⟨aa, ca, rfl, iA⟩ := tA.row
      obtain ⟨ab, cb, rfl, iB⟩ := tB.row
      obtain ⟨ac, cc, rfl, iC⟩ := tC.row
      have C1 := Lib.hid (fun w h => Melts_row r (1 + m) aa ca (asF L k) w (by rw [asF_len]; omega) h)
      have C2 := Lib.hid (fun w h => Melts_row r (1 + m) ab cb (bsF L M k) w (by rw [bsF_len]; omega) h)
      have C3 := Lib.hid (fun w h => Melts_row r (1 + m) ac cc (csF r L k) w (by rw [csF_len]; omega) h)
      have l1 : (asF L k).length ≤ 100 := by rw [asF_len]; exact hk100
      have l2 : (bsF L M k).length ≤ 100 := by rw [bsF_len]; exact hk100
      have l3 : (csF r L k).length ≤ 100 := by rw [csF_len]; exact hk100
      rw [q1] at C1
      rw [q2] at C2
      rw [q3] at C3
      unfold mtup at C1 C2 C3
      have IA := Lib.hid iA
      have IB := Lib.hid iB
      have IC := Lib.hid iC
      clear tA tB tC iA iB iC q1 q2 q3 T0 HL HM HA HB
      obtain ⟨A1, A2⟩ := A
      obtain ⟨B1, B2⟩ := B
      dsimp only at q4 C1 C2 C3
      generalize asF L k = X at *
      generalize bsF L M k = Y at *
      generalize csF r L k = Z at *
      have hb0 := hB0
      have f0 := Lib.hid ((kB.cell (p := ⟨w.heap.size, 0, none⟩) hfz).trans hf0.out)
      have f1 := Lib.hid ((kB.cell (p := ⟨w.heap.size, 1, none⟩) hfz).trans hg0.out)
      have kB' := below_up hB0 kB (by omega)
      have hwr : w.heap.size < wr.heap.size := by have := kB.size; omega
      clear hf0 hg0 hB0 hb0 kB hS0
      have k0 := f0.out
      have k1 := f1.out
      clear f0 f1
      have hcase : A2 = false ∨ (A2 = true ∧ B2 = true ∧ B1 ≤ A1) := by
        cases A2 with
        | false => exact Or.inl rfl
        | true => exact Or.inr ⟨rfl, q4 rfl⟩
      clear q4
      rcases hex with hex | ⟨hex, hex2⟩
      all_goals
        rcases hcase with rfl | ⟨rfl, rfl, hle⟩
        all_goals
          go_wp2_with (first | (go_at_call 23; first | (with_reducible refine (C1.out _ (IA.out.step (by repeat' (first | exact Below.refl _ _ | assumption | apply bDrewN | apply bDrew | apply bAlloc | (refine bSet ?_ ?_ _) | (refine bStep ?_ (by assumption)) | omega | (simp <;> omega))))).mono ?_; rintro e w1 ⟨rfl, hb1⟩; have k0 := cellS hb1 k0; have k1 := cellS hb1 k1) | (with_reducible refine (C2.out _ (IB.out.step (by repeat' (first | exact Below.refl _ _ | assumption | apply bDrewN | apply bDrew | apply bAlloc | (refine bSet ?_ ?_ _) | (refine bStep ?_ (by assumption)) | omega | (simp <;> omega))))).mono ?_; rintro e w2 ⟨rfl, hb2⟩; have k0 := cellS hb2 k0; have k1 := cellS hb2 k1) | (with_reducible refine (C3.out _ (IC.out.step (by repeat' (first | exact Below.refl _ _ | assumption | apply bDrewN | apply bDrew | apply bAlloc | (refine bSet ?_ ?_ _) | (refine bStep ?_ (by assumption)) | omega | (simp <;> omega))))).mono ?_; rintro e w3 ⟨rfl, hb3⟩)) | (go_at_call 16; refine (works5_any _).mono ?_; rintro e w4 ⟨rfl, hb4⟩))
          go_ret
          exact ⟨rfl, (by repeat' (first | exact Below.refl _ _ | assumption | apply bDrewN | apply bDrew | apply bAlloc | (refine bSet ?_ ?_ _) | (refine bStep ?_ (by assumption)) | omega | (simp <;> omega)))⟩
end Go.Proofs.Ytgiinciclnekjaa
