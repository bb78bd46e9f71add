/-
  PassportEvents: the walk.
-/
import Derived.Test.YtdelgbdiofkndaaGreatDoorG20Events
import Derived.Test.YtdelgbdiofkndaaGreatDoorG22Events
import Derived.Test.YtdelgbdiofkndaaGreatDoorG9Events
import Derived.Test.YtdelgbdiofkndaaGreatDoorG14Events
import Derived.Test.YtdelgbdiofkndaaGreatDoorG17Events
set_option linter.unusedSimpArgs false
set_option linter.unusedVariables false
namespace Go.Proofs.YtdelgbdiofkndaaGreatDoor
open Sx Go.RowKit Mr
def shB (nm ot : ByteArray) : Bool := decide (nm.size ≤ 100 ∧ ot.size ≤ 100)
set_option maxRecDepth 20000 in
theorem short_any (k t a b : Int) (nm ot : ByteArray) (w : World) :
    Calls Tryz.prog 4 #[.agg #[.int .i64 k, .int .i64 t, .int .i64 a, .int .i64 b, .string nm, .string ot]] w fun e w' => e = .returned (.bool (shB nm ot)) ∧ Below w.heap.size w w' := by
  unfold shB
  by_cases h1 : nm.size ≤ 100
  · by_cases h2 : ot.size ≤ 100
    · rw [decide_eq_true ⟨h1, h2⟩]
      have h3 : (nm.size : Int) ≤ 100 := by omega
      have h4 : (ot.size : Int) ≤ 100 := by omega
      clear h1 h2
      go_enter Tryz.func4, Tryz.ntmps4
      go_wp2_with fail
      go_ret
      exact ⟨rfl, (by repeat' (first | exact Below.refl _ _ | assumption | apply bDrewN | apply bDrew | apply bAlloc | (refine bSet ?_ ?_ _) | (refine bStep ?_ (by assumption)) | omega | (simp <;> omega)))⟩
    · rw [decide_eq_false (fun h => h2 h.2)]
      have h3 : (nm.size : Int) ≤ 100 := by omega
      have h4 : ¬ (ot.size : Int) ≤ 100 := by omega
      have h5 : 100 < (ot.size : Int) := by omega
      clear h1 h2
      go_enter Tryz.func4, Tryz.ntmps4
      go_wp2_with fail
      go_ret
      exact ⟨rfl, (by repeat' (first | exact Below.refl _ _ | assumption | apply bDrewN | apply bDrew | apply bAlloc | (refine bSet ?_ ?_ _) | (refine bStep ?_ (by assumption)) | omega | (simp <;> omega)))⟩
  · rw [decide_eq_false (fun h => h1 h.1)]
    have h3 : ¬ (nm.size : Int) ≤ 100 := by omega
    have h5 : 100 < (nm.size : Int) := by omega
    clear h1
    go_enter Tryz.func4, Tryz.ntmps4
    go_wp2_with fail
    go_ret
    exact ⟨rfl, (by repeat' (first | exact Below.refl _ _ | assumption | apply bDrewN | apply bDrew | apply bAlloc | (refine bSet ?_ ?_ _) | (refine bStep ?_ (by assumption)) | omega | (simp <;> omega)))⟩
/-- An event's box. -/
def EvB (B : Nat) (k t a b : Int) (nm ot : ByteArray) (W : World) : Prop := W.cell? ⟨B, 0, none⟩ = some (.int .i64 k) ∧ W.cell? ⟨B, 1, none⟩ = some (.int .i64 t) ∧ W.cell? ⟨B, 2, none⟩ = some (.int .i64 a) ∧ W.cell? ⟨B, 3, none⟩ = some (.int .i64 b) ∧ W.cell? ⟨B, 4, none⟩ = some (.string nm) ∧ W.cell? ⟨B, 5, none⟩ = some (.string ot)
theorem EvB.step {B : Nat} {k t a b : Int} {nm ot : ByteArray} {W w2 : World} (h : EvB B k t a b nm ot W) (hB : B < W.heap.size) (hb : Below W.heap.size W w2) : EvB B k t a b nm ot w2 := by
  obtain ⟨h0, h1, h2, h3, h4, h5⟩ := h
  have q : ∀ o, w2.cell? ⟨B, o, none⟩ = W.cell? ⟨B, o, none⟩ := fun o => hb.cell (p := ⟨B, o, none⟩) hB
  exact ⟨(q _).trans h0, (q _).trans h1, (q _).trans h2, (q _).trans h3, (q _).trans h4, (q _).trans h5⟩
def evb (k t a b : Int) (nm ot : ByteArray) : Obj := .cells #[.int .i64 k, .int .i64 t, .int .i64 a, .int .i64 b, .string nm, .string ot] 23
theorem evb_at {k t a b : Int} {nm ot : ByteArray} {W : World} : EvB W.heap.size k t a b nm ot (W.alloc (evb k t a b nm ot)) := by
  unfold EvB evb; refine ⟨?_, ?_, ?_, ?_, ?_, ?_⟩ <;> go_simp
theorem evb_lt {k t a b : Int} {nm ot : ByteArray} {W : World} : W.heap.size < (W.alloc (evb k t a b nm ot)).heap.size := by simp
theorem pa_form (r : Option E6) : ∃ (k t a b : Int) (nm ot : ByteArray) (er : Int), paV r = .tuple #[.agg #[.int .i64 k, .int .i64 t, .int .i64 a, .int .i64 b, .string nm, .string ot], .int .i64 er] := by
  cases r with
  | none => exact ⟨_, _, _, _, _, _, _, rfl⟩
  | some e => obtain ⟨k, t, a, b, nm, ot⟩ := e; exact ⟨_, _, _, _, _, _, _, rfl⟩
theorem byR_byt (k t a b : Int) (nm ot : ByteArray) (h1 : nm.size ≤ 100) (h2 : ot.size ≤ 100) : Byt (byR k t a b nm ot).1 := by
  unfold byR
  split
  · rename_i ha
    have O1 := okE_ev ha
    exact bytesE_byt (e := evL k t a b nm ot) O1.1.k.2 (by rw [Lib.size_eq] at h1; exact h1) (by rw [Lib.size_eq] at h2; exact h2)
  · intro x; simp
theorem text_size (k t a b : Int) (nm ot : ByteArray) (h : okE k t a b nm ot = true) (h1 : nm.size ≤ 100) (h2 : ot.size ≤ 100) : (⟨(textE (evL k t a b nm ot)).toArray⟩ : ByteArray).size ≤ 1000 := by
  obtain ⟨he, -, -⟩ := okE_ev h
  have hk := he.k
  have ht := he.t
  have ha := he.a
  have hb := he.b
  clear he
  change 1 ≤ k ∧ k ≤ 9 at hk
  change 0 ≤ t ∧ t ≤ 1099511627776 at ht
  change 0 ≤ a ∧ a ≤ 1099511627776 at ha
  change 0 ≤ b ∧ b ≤ 1099511627776 at hb
  rw [← tx5_is hk]
  have l0 := wd_size hk
  have ls : spB.size ≤ 1 := Nat.le_refl _
  have lt := it_size ht.1 ht.2
  have la := it_size ha.1 ha.2
  have lb := it_size hb.1 hb.2
  have l1 : (tx1 k t).size ≤ 6 + 1 + 21 := add_le (add_le l0 ls) lt
  have l2 : (tx2 k t a).size ≤ 6 + 1 + 21 + 1 + 21 := bif_le (add_le (add_le l1 ls) la) (Nat.le_trans l1 (by decide))
  have l3 : (tx3 k t a b).size ≤ 6 + 1 + 21 + 1 + 21 + 1 + 21 := bif_le (add_le (add_le l2 ls) lb) (Nat.le_trans l2 (by decide))
  have l4 : (tx4 k t a b nm).size ≤ 6 + 1 + 21 + 1 + 21 + 1 + 21 + 1 + 100 := bif_le (add_le (add_le l3 ls) h1) (Nat.le_trans l3 (by decide))
  have l5 : (tx5 k t a b nm ot).size ≤ 6 + 1 + 21 + 1 + 21 + 1 + 21 + 1 + 100 + 1 + 100 := bif_le (add_le (add_le l4 ls) h2) (Nat.le_trans l4 (by decide))
  exact Nat.le_trans l5 (by decide)
set_option maxHeartbeats 4000000 in
set_option maxRecDepth 20000 in
theorem Events_long1 (k t a b : Int) (nm ot : ByteArray) (s : ByteArray) (w : World) (hG : Glob0 w) (h1 : shB nm ot = false) :
    Calls Tryz.prog 3 #[.agg #[.int .i64 k, .int .i64 t, .int .i64 a, .int .i64 b, .string nm, .string ot], .string s] w fun e w' => e = .returned (.bool true) ∧ Below w.heap.size w w' := by
  have CW := Lib.hid (fun W hG => works_any W hG)
  have SA1 := Lib.hid (fun W => short_any k t a b nm ot W)
  have E1 := Lib.hid (evb_at (k := k) (t := t) (a := a) (b := b) (nm := nm) (ot := ot) (W := w))
  have HG0 := Lib.hid (gstep hG (bAlloc (Below.refl w.heap.size w) (evb k t a b nm ot)))
  have K := Below.refl (w.alloc (evb k t a b nm ot)).heap.size (w.alloc (evb k t a b nm ot))
  have K0 := Lib.hid (bAlloc (Below.refl w.heap.size w) (evb k t a b nm ot))
  have L1 : w.heap.size < (w.alloc (evb k t a b nm ot)).heap.size := evb_lt
  unfold evb at E1 HG0 K K0 L1
  have H1 := Lib.hid L1
  rw [h1] at SA1
  clear hG h1 L1
  go_enter Tryz.func3, Tryz.ntmps3
  go_wp2_with (first | (go_at_call 4; refine (SA1.out _).mono ?_; rintro e w1 ⟨rfl, hb1⟩; replace K := bStep (by repeat' (first | exact K | apply bDrewN | apply bDrew)) hb1; obtain ⟨f0, f1, f2, f3, f4, f5⟩ := E1.out.step H1.out K) | (go_at_call 5; refine (CW.out _ (gstep HG0.out (by repeat' (first | exact K | apply bDrewN | apply bDrew)))).mono ?_; rintro e w1 ⟨rfl, hb1⟩; replace K := bStep (by repeat' (first | exact K | apply bDrewN | apply bDrew)) hb1))
  all_goals (go_ret; exact ⟨rfl, bStep K0.out (by repeat' (first | exact K | apply bDrewN | apply bDrew))⟩)
set_option maxHeartbeats 4000000 in
set_option maxRecDepth 20000 in
theorem Events_long2 (k t a b : Int) (nm ot : ByteArray) (s : ByteArray) (w : World) (hG : Glob0 w) (h1 : shB nm ot = true) (h2 : ¬ s.size ≤ 1000) :
    Calls Tryz.prog 3 #[.agg #[.int .i64 k, .int .i64 t, .int .i64 a, .int .i64 b, .string nm, .string ot], .string s] w fun e w' => e = .returned (.bool true) ∧ Below w.heap.size w w' := by
  have CW := Lib.hid (fun W hG => works_any W hG)
  have SA1 := Lib.hid (fun W => short_any k t a b nm ot W)
  have E1 := Lib.hid (evb_at (k := k) (t := t) (a := a) (b := b) (nm := nm) (ot := ot) (W := w))
  have HG0 := Lib.hid (gstep hG (bAlloc (Below.refl w.heap.size w) (evb k t a b nm ot)))
  have K := Below.refl (w.alloc (evb k t a b nm ot)).heap.size (w.alloc (evb k t a b nm ot))
  have K0 := Lib.hid (bAlloc (Below.refl w.heap.size w) (evb k t a b nm ot))
  have L1 : w.heap.size < (w.alloc (evb k t a b nm ot)).heap.size := evb_lt
  unfold evb at E1 HG0 K K0 L1
  have H1 := Lib.hid L1
  rw [h1] at SA1
  have h3 : (1000 : Int) < s.size := by omega
  clear hG h1 h2 L1
  go_enter Tryz.func3, Tryz.ntmps3
  go_wp2_with (first | (go_at_call 4; refine (SA1.out _).mono ?_; rintro e w1 ⟨rfl, hb1⟩; replace K := bStep (by repeat' (first | exact K | apply bDrewN | apply bDrew)) hb1; obtain ⟨f0, f1, f2, f3, f4, f5⟩ := E1.out.step H1.out K) | (go_at_call 5; refine (CW.out _ (gstep HG0.out (by repeat' (first | exact K | apply bDrewN | apply bDrew)))).mono ?_; rintro e w1 ⟨rfl, hb1⟩; replace K := bStep (by repeat' (first | exact K | apply bDrewN | apply bDrew)) hb1))
  all_goals (go_ret; exact ⟨rfl, bStep K0.out (by repeat' (first | exact K | apply bDrewN | apply bDrew))⟩)
set_option maxHeartbeats 4000000 in
set_option maxRecDepth 20000 in
theorem Events_in (k t a b : Int) (nm ot : ByteArray) (s : ByteArray) (w : World) (hG : Glob0 w) (h1 : shB nm ot = true) (h2 : s.size ≤ 1000) :
    Calls Tryz.prog 3 #[.agg #[.int .i64 k, .int .i64 t, .int .i64 a, .int .i64 b, .string nm, .string ot], .string s] w fun e w' => e = .returned (.bool true) ∧ Below w.heap.size w w' := by
  have CW := Lib.hid (fun W hG => works_any W hG)
  have SA1 := Lib.hid (fun W => short_any k t a b nm ot W)
  have E1 := Lib.hid (evb_at (k := k) (t := t) (a := a) (b := b) (nm := nm) (ot := ot) (W := w))
  have HG0 := Lib.hid (gstep hG (bAlloc (Below.refl w.heap.size w) (evb k t a b nm ot)))
  have K := Below.refl (w.alloc (evb k t a b nm ot)).heap.size (w.alloc (evb k t a b nm ot))
  have K0 := Lib.hid (bAlloc (Below.refl w.heap.size w) (evb k t a b nm ot))
  have L1 : w.heap.size < (w.alloc (evb k t a b nm ot)).heap.size := evb_lt
  unfold evb at E1 HG0 K K0 L1
  have H1 := Lib.hid L1

  rw [h1] at SA1
  obtain ⟨q1, q2⟩ := of_decide_eq_true h1
  have B1 := Lib.hid (fun W hG => PBytes_any k t a b nm ot W hG q1 q2)
  have B2 := Lib.hid (fun W hG => RBytes_any k t a b nm ot W hG q1 q2)
  have T1 := Lib.hid (fun W hG => PText_any k t a b nm ot W hG (by omega) (by omega))
  have T2 := Lib.hid (fun W hG => RText_any k t a b nm ot W hG (by omega) (by omega))
  have P1 := Lib.hid (fun W hG => PParse_any s W (by omega) hG)
  have P2 := Lib.hid (fun W hG => RParse_any s W (by omega) hG)
  have HM := Lib.hid (byR_byt k t a b nm ot q1 q2)
  have C1 := Lib.hid (fun W hG => Check_any k t a b nm ot W hG (by omega) (by omega))
  have C2 := Lib.hid (fun W hG => RCheck_any k t a b nm ot W hG (by omega) (by omega))
  have HX : Hid ((txR k t a b nm ot).2 = 2 ∨ ((txR k t a b nm ot).2 = 0 ∧ ∀ W (hG : Glob0 W), Calls Tryz.prog 10 #[.string (txR k t a b nm ot).1] W fun e w' => e = .returned (.tuple #[.agg #[.int .i64 k, .int .i64 t, .int .i64 a, .int .i64 b, .string nm, .string ot], .int .i64 0]) ∧ Below W.heap.size W w')) := by
    unfold txR
    by_cases hok : okE k t a b nm ot = true
    · rw [if_pos hok]
      refine Or.inr ⟨rfl, fun W hG => ?_⟩
      have h := PParse_any ⟨(textE (evL k t a b nm ot)).toArray⟩ W (by have := text_size k t a b nm ot hok q1 q2; omega) hG
      rw [parE_good (l := (⟨(textE (evL k t a b nm ot)).toArray⟩ : ByteArray).data.toList) (e := (k, t, a, b, nm, ot)) hok rfl] at h
      exact h
    · rw [if_neg hok]
      exact Or.inl rfl
  obtain ⟨kk, tt, aa, bb, nn, oo, er, hpa⟩ := pa_form (parE s.data.toList)
  rw [hpa] at P1 P2
  have hs3 : ¬ (1000 : Int) < s.size := by omega
  clear hG h1 h2 L1 hpa
  generalize (bif okE k t a b nm ot then (0 : Int) else 2) = ce at *
  generalize (txR k t a b nm ot).1 = tx at *
  generalize (txR k t a b nm ot).2 = te at *
  generalize (byR k t a b nm ot).1 = m at *
  generalize (byR k t a b nm ot).2 = be at *
  go_enter Tryz.func3, Tryz.ntmps3
  go_upto_region 7 with (first
    | (go_at_call 4; refine (SA1.out _).mono ?_; rintro e w1 ⟨rfl, hb1⟩; replace K := bStep (by repeat' (first | exact K | apply bDrewN | apply bDrew)) hb1; obtain ⟨f0, f1, f2, f3, f4, f5⟩ := E1.out.step H1.out K)
    | (go_at_call 6; refine (B1.out _ (gstep HG0.out (by repeat' (first | exact K | apply bDrewN | apply bDrew)))).mono ?_; rintro e w1 ⟨p1, c1, rfl, V1, hb1⟩; replace V1 := Lib.hid V1; replace K := bStep (by repeat' (first | exact K | apply bDrewN | apply bDrew)) hb1; obtain ⟨f0, f1, f2, f3, f4, f5⟩ := E1.out.step H1.out K)
    | (go_at_call 7; refine (B2.out _ (gstep HG0.out (by repeat' (first | exact K | apply bDrewN | apply bDrew)))).mono ?_; rintro e w1 ⟨p2, c2, rfl, V2, hb1⟩; replace V2 := Lib.hid V2; replace V1 := Lib.hid (V1.out.step (bStep (by repeat' (first | exact Below.refl _ _ | apply bDrewN | apply bDrew)) hb1)); replace K := bStep (by repeat' (first | exact K | apply bDrewN | apply bDrew)) hb1; obtain ⟨f0, f1, f2, f3, f4, f5⟩ := E1.out.step H1.out K)
    | (go_at_call 8; refine (T1.out _ (gstep HG0.out (by repeat' (first | exact K | apply bDrewN | apply bDrew)))).mono ?_; rintro e w1 ⟨rfl, hb1⟩; replace V1 := Lib.hid (V1.out.step (bStep (by repeat' (first | exact Below.refl _ _ | apply bDrewN | apply bDrew)) hb1)); replace V2 := Lib.hid (V2.out.step (bStep (by repeat' (first | exact Below.refl _ _ | apply bDrewN | apply bDrew)) hb1)); replace K := bStep (by repeat' (first | exact K | apply bDrewN | apply bDrew)) hb1; obtain ⟨f0, f1, f2, f3, f4, f5⟩ := E1.out.step H1.out K)
    | (go_at_call 9; refine (T2.out _ (gstep HG0.out (by repeat' (first | exact K | apply bDrewN | apply bDrew)))).mono ?_; rintro e w1 ⟨rfl, hb1⟩; replace V1 := Lib.hid (V1.out.step (bStep (by repeat' (first | exact Below.refl _ _ | apply bDrewN | apply bDrew)) hb1)); replace V2 := Lib.hid (V2.out.step (bStep (by repeat' (first | exact Below.refl _ _ | apply bDrewN | apply bDrew)) hb1)); replace K := bStep (by repeat' (first | exact K | apply bDrewN | apply bDrew)) hb1; obtain ⟨f0, f1, f2, f3, f4, f5⟩ := E1.out.step H1.out K)
    | (go_at_call 5; refine (CW.out _ (gstep HG0.out (by repeat' (first | exact K | apply bDrewN | apply bDrew)))).mono ?_; rintro e w1 ⟨rfl, hb1⟩; replace K := bStep (by repeat' (first | exact K | apply bDrewN | apply bDrew)) hb1))
  clear SA1 B1 B2 T1 T2
  have hb0 : Below w.heap.size w w1 := bStep K0.out (by repeat' (first | exact K | apply bDrewN | apply bDrew))
  have F0 := Lib.hid (show EvB w.heap.size k t a b nm ot w1 from ⟨f0, f1, f2, f3, f4, f5⟩)
  have HG1 := Lib.hid (gstep HG0.out (by repeat' (first | exact K | apply bDrewN | apply bDrew)))
  have L0 : w.heap.size < w1.heap.size := Nat.lt_of_lt_of_le H1.out K.size
  clear E1 K K0 H1 HG0 f0 f1 f2 f3 f4 f5
  go_upto_region 8 with (go_at_call 10; refine (P1.out _ HG1.out).mono ?_; rintro e w2 ⟨rfl, hb2⟩)
  have hb3 := bAlloc hb2 (evb kk tt aa bb nn oo)
  have F1 := Lib.hid (evb_at (k := kk) (t := tt) (a := aa) (b := bb) (nm := nn) (ot := oo) (W := w2))
  have G1 : w2.heap.size < (w2.alloc (evb kk tt aa bb nn oo)).heap.size := evb_lt
  have G0 : w.heap.size < (w2.alloc (evb kk tt aa bb nn oo)).heap.size := Nat.lt_of_lt_of_le L0 hb3.size
  replace F0 := Lib.hid (F0.out.step L0 hb3)
  replace V1 := Lib.hid (V1.out.step hb3)
  replace V2 := Lib.hid (V2.out.step hb3)
  have hb1 := bStep hb0 hb3
  replace HG1 := Lib.hid (gstep HG1.out hb3)
  unfold evb at F1 F0 G1 G0 V1 V2 hb1 HG1
  clear hb2 hb3 hb0 L0
  generalize w2.alloc _ = W2 at *
  generalize w2.heap.size = e1 at *
  go_upto_region 9 with (go_at_call 11; refine (P2.out _ HG1.out).mono ?_; rintro e w3 ⟨rfl, hb2⟩)
  have hb3 := bAlloc hb2 (evb kk tt aa bb nn oo)
  have F2 := Lib.hid (evb_at (k := kk) (t := tt) (a := aa) (b := bb) (nm := nn) (ot := oo) (W := w3))
  have H2 : w3.heap.size < (w3.alloc (evb kk tt aa bb nn oo)).heap.size := evb_lt
  have H1 : e1 < (w3.alloc (evb kk tt aa bb nn oo)).heap.size := Nat.lt_of_lt_of_le G1 hb3.size
  have H0 : w.heap.size < (w3.alloc (evb kk tt aa bb nn oo)).heap.size := Nat.lt_of_lt_of_le G0 hb3.size
  replace F0 := Lib.hid (F0.out.step G0 hb3)
  replace F1 := Lib.hid (F1.out.step G1 hb3)
  replace V1 := Lib.hid (V1.out.step hb3)
  replace V2 := Lib.hid (V2.out.step hb3)
  replace hb1 := bStep hb1 hb3
  replace HG1 := Lib.hid (gstep HG1.out hb3)
  unfold evb at F2 F1 F0 H2 H1 H0 V1 V2 hb1 HG1
  clear hb2 hb3 G0 G1 P1 P2
  generalize w3.alloc _ = W3 at *
  generalize w3.heap.size = e2 at *
  have QF : ∀ s : WStep W3, EvB w.heap.size k t a b nm ot s.1 := fun s => F0.out.step H0 s.2
  have QG : ∀ s : WStep W3, EvB e1 kk tt aa bb nn oo s.1 := fun s => F1.out.step H1 s.2
  have QH : ∀ s : WStep W3, EvB e2 kk tt aa bb nn oo s.1 := fun s => F2.out.step H2 s.2
  have f0 := fun s => (QF s).1
  have f1 := fun s => (QF s).2.1
  have f2 := fun s => (QF s).2.2.1
  have f3 := fun s => (QF s).2.2.2.1
  have f4 := fun s => (QF s).2.2.2.2.1
  have f5 := fun s => (QF s).2.2.2.2.2
  have g0 := fun s => (QG s).1
  have g1 := fun s => (QG s).2.1
  have g2 := fun s => (QG s).2.2.1
  have g3 := fun s => (QG s).2.2.2.1
  have g4 := fun s => (QG s).2.2.2.2.1
  have g5 := fun s => (QG s).2.2.2.2.2
  have h0 := fun s => (QH s).1
  have h1 := fun s => (QH s).2.1
  have h2 := fun s => (QH s).2.2.1
  have h3 := fun s => (QH s).2.2.2.1
  have h4 := fun s => (QH s).2.2.2.2.1
  have h5 := fun s => (QH s).2.2.2.2.2
  clear QF QG QH
  have CX1 : Hid (∀ s : WStep W3, Calls Tryz.prog 12 #[.agg #[.int .i64 k, .int .i64 t, .int .i64 a, .int .i64 b, .string nm, .string ot]] s.1 fun e w' => e = .returned (.int .i64 ce) ∧ ∃ t : WStep W3, w' = t.1) := fun s => step_call s (C1.out s.1 (gstep HG1.out s.2))
  have CX2 : Hid (∀ s : WStep W3, Calls Tryz.prog 13 #[.agg #[.int .i64 k, .int .i64 t, .int .i64 a, .int .i64 b, .string nm, .string ot]] s.1 fun e w' => e = .returned (.int .i64 ce) ∧ ∃ t : WStep W3, w' = t.1) := fun s => step_call s (C2.out s.1 (gstep HG1.out s.2))
  have CX3 : Hid (∀ s : WStep W3, Calls Tryz.prog 14 #[.slice p1 m.length c1, .slice p2 m.length c2] s.1 fun e w' => e = .returned (.bool true) ∧ ∃ t : WStep W3, w' = t.1) := fun s => step_call s (by
    have h := same_any p1 p2 c1 c2 m m s.1 HM.out HM.out (V1.out.step s.2) (V2.out.step s.2)
    rw [decide_eq_true rfl] at h
    exact h)
  clear C1 C2
  refine wp_region_step (by kernel_rfl) (by kernel_rfl) ?_
  repeat (quiet_step (first | (with_reducible exact CX1.out _) | (with_reducible exact CX2.out _) | (with_reducible exact CX3.out _)))
  refine wpQuiet_nil ?_
  intro W4 hw'
  obtain ⟨⟨W4', hW4⟩, hw''⟩ := hw'
  dsimp only at hw''
  subst hw''
  clear CX1 CX2 CX3 f0 f1 f2 f3 f4 f5 g0 g1 g2 g3 g4 g5 h0 h1 h2 h3 h4 h5
  have HG4 := Lib.hid (gstep HG1.out hW4)
  have F4 := Lib.hid (F0.out.step H0 hW4)
  have H4 : w.heap.size < W4.heap.size := Nat.lt_of_lt_of_le H0 hW4.size
  replace hb1 := bStep hb1 hW4
  clear F0 F1 F2 V1 V2 H0 H1 H2 HG1 hW4
  rcases HX.out with rfl | ⟨rfl, hP⟩
  · go_wp2_with (go_at_call 5; refine (CW.out _ HG4.out).mono ?_; rintro e w1 ⟨rfl, hb2⟩)
    go_ret
    exact ⟨rfl, bStep hb1 hb2⟩
  · have P3 := Lib.hid hP
    clear HX hP
    go_upto_region 13 with (go_at_call 10; refine (P3.out _ HG4.out).mono ?_; rintro e w5 ⟨rfl, hb5⟩)
    have hb6 := bAlloc hb5 (evb k t a b nm ot)
    have F5 := Lib.hid (evb_at (k := k) (t := t) (a := a) (b := b) (nm := nm) (ot := ot) (W := w5))
    replace F4 := Lib.hid (F4.out.step H4 hb6)
    replace hb1 := bStep hb1 hb6
    replace HG4 := Lib.hid (gstep HG4.out hb6)
    unfold evb at F5 F4 hb1 HG4
    clear hb5 hb6
    generalize w5.alloc _ = W5 at *
    generalize w5.heap.size = e5 at *
    obtain ⟨f0, f1, f2, f3, f4, f5⟩ := F4.out
    obtain ⟨g0, g1, g2, g3, g4, g5⟩ := F5.out
    go_wp2_with (go_at_call 5; refine (CW.out _ (by first | exact HG4.out | exact gstep HG4.out (by repeat' (first | exact Below.refl _ _ | apply bDrewN | apply bDrew)))).mono ?_; rintro e w1 ⟨rfl, hb2⟩)
    go_ret
    exact ⟨rfl, bStep hb1 hb2⟩

theorem PassportEvents_walk (k t a b : Int) (nm ot : ByteArray) (s : ByteArray) (w : World) (hG : Glob0 w) :
    Calls Tryz.prog 3 #[.agg #[.int .i64 k, .int .i64 t, .int .i64 a, .int .i64 b, .string nm, .string ot], .string s] w fun e w' => e = .returned (.bool true) ∧ Below w.heap.size w w' := by
  cases h1 : shB nm ot
  · exact Events_long1 k t a b nm ot s w hG h1
  · by_cases h2 : s.size ≤ 1000
    · exact Events_in k t a b nm ot s w hG h1 h2
    · exact Events_long2 k t a b nm ot s w hG h1 h2
end Go.Proofs.YtdelgbdiofkndaaGreatDoor
