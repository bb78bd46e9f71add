/-
  The walk of the law QuantitySpans.
-/
import Derived.Test.YtjnllfebeeiilaaL2
set_option linter.unusedSimpArgs false
set_option linter.unusedVariables false
namespace Go.Proofs.Ytjnllfebeeiilaa
open Go.RowKit

/-- The asking's box. -/
def AskBox (w : World) (a1 a2 b1 b2 n d x : Int) (W : World) : Prop :=
  W.cell? ⟨w.heap.size, 0, none⟩ = some (.int .i64 a1) ∧ W.cell? ⟨w.heap.size, 1, none⟩ = some (.int .i64 a2) ∧ W.cell? ⟨w.heap.size, 2, none⟩ = some (.int .i64 b1) ∧ W.cell? ⟨w.heap.size, 3, none⟩ = some (.int .i64 b2) ∧
  W.cell? ⟨w.heap.size, 4, none⟩ = some (.int .i64 n) ∧ W.cell? ⟨w.heap.size, 5, none⟩ = some (.int .i64 d) ∧ W.cell? ⟨w.heap.size, 6, none⟩ = some (.int .i64 x) ∧ Below w.heap.size w W
theorem AskBox.step {w W w2 : World} {a1 a2 b1 b2 n d x : Int} (h : AskBox w a1 a2 b1 b2 n d x W) (hb : Below W.heap.size W w2) : AskBox w a1 a2 b1 b2 n d x w2 := by
  obtain ⟨h1, h2, h3, h4, h5, h6, h7, h8⟩ := h
  exact ⟨cell_step h1 hb, cell_step h2 hb, cell_step h3 hb, cell_step h4 hb, cell_step h5 hb, cell_step h6 hb, cell_step h7 hb, bStep h8 hb⟩
theorem AskBox.set {w W : World} {a1 a2 b1 b2 n d x : Int} (h : AskBox w a1 a2 b1 b2 n d x W) {s : Nat} (hs : w.heap.size < s) (v0 v1 : Value) : AskBox w a1 a2 b1 b2 n d x ((W.setCell ⟨s, 0, none⟩ v0).setCell ⟨s, 1, none⟩ v1) := by
  obtain ⟨h1, h2, h3, h4, h5, h6, h7, h8⟩ := h
  have e : w.heap.size ≠ s := by omega
  exact ⟨cell_set_far (cell_set_far h1 e) e, cell_set_far (cell_set_far h2 e) e, cell_set_far (cell_set_far h3 e) e, cell_set_far (cell_set_far h4 e) e, cell_set_far (cell_set_far h5 e) e, cell_set_far (cell_set_far h6 e) e, cell_set_far (cell_set_far h7 e) e, bSet (bSet h8 (Nat.le_of_lt hs) _) (Nat.le_of_lt hs) _⟩
def SpSt (w : World) (s t : Nat) (a1 a2 b1 b2 n d x : Int) (W : World) : Prop := AskBox w a1 a2 b1 b2 n d x W ∧ ResBox s W ∧ ResBox t W
theorem SpSt.step {w W w2 : World} {s t : Nat} {a1 a2 b1 b2 n d x : Int} (h : SpSt w s t a1 a2 b1 b2 n d x W) (hb : Below W.heap.size W w2) : SpSt w s t a1 a2 b1 b2 n d x w2 := ⟨h.1.step hb, h.2.1.step hb, h.2.2.step hb⟩
theorem SpSt.set {w W : World} {s t : Nat} {a1 a2 b1 b2 n d x : Int} (h : SpSt w s t a1 a2 b1 b2 n d x W) (hs : w.heap.size < s) (hne : t ≠ s) (v0 v1 : Value) :
    SpSt w s t a1 a2 b1 b2 n d x ((W.setCell ⟨s, 0, none⟩ v0).setCell ⟨s, 1, none⟩ v1) := ⟨h.1.set hs v0 v1, h.2.1.set v0 v1, (h.2.2.setFar hne _ _).setFar hne _ _⟩
theorem SpSt.swap {w W : World} {s t : Nat} {a1 a2 b1 b2 n d x : Int} (h : SpSt w s t a1 a2 b1 b2 n d x W) : SpSt w t s a1 a2 b1 b2 n d x W := ⟨h.1, h.2.2, h.2.1⟩

set_option maxHeartbeats 4000000 in
set_option maxRecDepth 20000 in
theorem Spans_core (a b : Int × Int) (n d x : Int) (w : World) :
    Calls Try.prog 9 #[.agg #[.int .i64 a.1, .int .i64 a.2, .int .i64 b.1, .int .i64 b.2, .int .i64 n, .int .i64 d, .int .i64 x]] w fun e w' => e = .returned (.bool true) ∧ Below w.heap.size w w' := by
  have CAdd := Lib.hid (fun w => Add_any a b w)
  have DAdd := Lib.hid (fun w => RAdd_any a b w)
  have CSub := Lib.hid (fun w => Sub_any a b w)
  have DSub := Lib.hid (fun w => RSub_any a b w)
  have CMul := Lib.hid (fun w => Mul_any a b d w)
  have DMul := Lib.hid (fun w => RMul_any a b d w)
  have CDiv := Lib.hid (fun w => Div_any a b n w)
  have DDiv := Lib.hid (fun w => RDiv_any a b n w)
  have CMeet := Lib.hid (fun w => Meet_any a b w)
  have DMeet := Lib.hid (fun w => RMeet_any a b w)
  have CHull := Lib.hid (fun w => Hull_any a b w)
  have DHull := Lib.hid (fun w => RHull_any a b w)
  have CIns := Lib.hid (fun w => Inside_any a b w)
  have DIns := Lib.hid (fun w => RInside_any a b w)
  have CO := Lib.hid (fun w => one_any a b.1 b.2 n d x w)
  generalize addS a b = vAdd at *
  generalize subS a b = vSub at *
  generalize mulS a b d = vMul at *
  generalize divS a b n = vDiv at *
  generalize meetS a b = vMeet at *
  generalize hullS a b = vHull at *
  generalize insideS a b = vIns at *
  obtain ⟨a1, a2⟩ := a
  obtain ⟨b1, b2⟩ := b
  dsimp only at *
  go_enter Try.func9, Try.ntmps9
  go_wp2_with fail
  have hS : AskBox w a1 a2 b1 b2 n d x (w.alloc (Obj.cells #[.int .i64 a1, .int .i64 a2, .int .i64 b1, .int .i64 b2, .int .i64 n, .int .i64 d, .int .i64 x] 60)) := by
    refine ⟨?_, ?_, ?_, ?_, ?_, ?_, ?_, (by repeat' (first | exact Below.refl _ _ | assumption | apply bDrewN | apply bDrew | apply bAlloc | (refine bSet ?_ ?_ _) | (refine bStep ?_ (by assumption)) | omega | (simp <;> omega)))⟩ <;> go_simp
  have HS := Lib.hid hS
  clear hS
  go_region_held3 (fun W => W.cell? ⟨w.heap.size, 0, none⟩ = some (.int .i64 a1) ∧ W.cell? ⟨w.heap.size, 1, none⟩ = some (.int .i64 a2) ∧ W.cell? ⟨w.heap.size, 2, none⟩ = some (.int .i64 b1) ∧ W.cell? ⟨w.heap.size, 3, none⟩ = some (.int .i64 b2) ∧ W.cell? ⟨w.heap.size, 4, none⟩ = some (.int .i64 n) ∧ W.cell? ⟨w.heap.size, 5, none⟩ = some (.int .i64 d) ∧ W.cell? ⟨w.heap.size, 6, none⟩ = some (.int .i64 x) ∧ Below w.heap.size w W)
    ((first | exact AskBox.step HS.out (Below.refl _ _).drew | exact AskBox.step (by assumption) (by assumption)))
    ((first | (go_at_call 44; refine (CO.out _).mono ?_; rintro e w5 ⟨rfl, hb5⟩) | (go_at_call 36; refine (CIns.out _).mono ?_; rintro e w5 ⟨rfl, hb5⟩) | (go_at_call 45; refine (DIns.out _).mono ?_; rintro e w5 ⟨rfl, hb5⟩)))
  have hA : AskBox w a1 a2 b1 b2 n d x _ := ‹_ ∧ _ ∧ _ ∧ _ ∧ _ ∧ _ ∧ _ ∧ Below _ _ _›
  obtain ⟨c1, c2, c3, c4, c5, c6, c7, kB⟩ := id hA
  have HA := Lib.hid hA
  clear hA
  go_wp2_with (first | (go_at_call 32; refine (CAdd.out _).mono ?_; rintro e w6 ⟨rfl, hb6⟩; have hN := HA.out.step hb6; clear c1 c2 c3 c4 c5 c6 c7 kB HA; obtain ⟨c1, c2, c3, c4, c5, c6, c7, kB⟩ := id hN; have HA := Lib.hid hN; clear hN; have hlw : w.heap.size < w6.heap.size := cell_lt c1) | (go_at_call 46; go_loud (refine (DAdd.out _).mono ?_; rintro e w7 ⟨rfl, hb7⟩; have hN := (HA.out.step ((Below.refl _ _).alloc (Nat.le_refl _) _)).step hb7; have z1 : w7.cell? ⟨w6.heap.size, 0, none⟩ = some (.int .i64 vAdd.1.1) := cellStep hb7 (by go_simp); have z2 : w7.cell? ⟨w6.heap.size, 1, none⟩ = some (.int .i64 vAdd.1.2) := cellStep hb7 (by go_simp); have z3 : w7.frozen? ⟨w6.heap.size, 0, none⟩ = false := freeStep (v := .int .i64 vAdd.1.1) hb7 (by go_simp) (by go_simp); have z4 : w7.frozen? ⟨w6.heap.size, 1, none⟩ = false := freeStep (v := .int .i64 vAdd.1.2) hb7 (by go_simp) (by go_simp); have hlt : w6.heap.size < w7.heap.size := (by have := hb7.size; simp at this; omega); clear c1 c2 c3 c4 c5 c6 c7 kB HA; obtain ⟨c1, c2, c3, c4, c5, c6, c7, kB⟩ := id hN; have HA := Lib.hid hN; clear hN; have hlw' : w.heap.size < w7.heap.size := cell_lt c1)))
  have hO : SpSt w w6.heap.size w7.heap.size a1 a2 b1 b2 n d x (w7.alloc (Obj.cells #[Value.int IntKind.i64 vAdd.fst.fst, Value.int IntKind.i64 vAdd.fst.snd] 27)) := by
    refine ⟨HA.out.step ((Below.refl _ _).alloc (Nat.le_refl _) _), ⟨⟨.int .i64 vAdd.1.1, .int .i64 vAdd.1.2, ?_, ?_⟩, ?_, ?_⟩, ⟨⟨.int .i64 vAdd.1.1, .int .i64 vAdd.1.2, ?_, ?_⟩, ?_, ?_⟩⟩ <;> go_simp
  generalize w7.alloc (Obj.cells #[Value.int IntKind.i64 vAdd.fst.fst, Value.int IntKind.i64 vAdd.fst.snd] 27) = W0 at *
  clear c1 c2 c3 c4 c5 c6 c7 kB HA z1 z2 z3 z4 hb6 hb7
  generalize w6.heap.size = s at *
  generalize w7.heap.size = t at *
  obtain ⟨⟨c1, c2, c3, c4, c5, c6, c7, kB⟩, ⟨⟨x0, x1, e1, e2⟩, e3, e4⟩, ⟨⟨y0, y1, f1, f2⟩, f3, f4⟩⟩ := id hO
  have hwt : w.heap.size < t := by omega
  have hlt0 : w.heap.size < s := by omega
  have hne : t ≠ s := by omega
  have hne' : s ≠ t := by omega
  have HNE := Lib.hid hne
  have HNE' := Lib.hid hne'
  have HO := Lib.hid hO
  clear hO hne hne'
  go_wp2_with (first | (go_at_call 33; refine (CSub.out _).mono ?_; rintro e w5 ⟨rfl, hb5⟩; have hN : SpSt w s t a1 a2 b1 b2 n d x w5 := (by first | exact HO.out.step hb5 | exact ((HO.out.swap.set hwt HNE'.out _ _).swap).step hb5); clear c1 c2 c3 c4 c5 c6 c7 kB e1 e2 e3 e4 f1 f2 f3 f4 HO; obtain ⟨⟨c1, c2, c3, c4, c5, c6, c7, kB⟩, ⟨⟨x0, x1, e1, e2⟩, e3, e4⟩, ⟨⟨y0, y1, f1, f2⟩, f3, f4⟩⟩ := id hN; have HO := Lib.hid hN; clear hN) | (go_at_call 47; refine (DSub.out _).mono ?_; rintro e w6 ⟨rfl, hb6⟩; have hN : SpSt w s t a1 a2 b1 b2 n d x w6 := ((HO.out.set hlt0 HNE.out _ _).step hb6); have z1 : w6.cell? ⟨s, 0, none⟩ = some (.int .i64 vSub.1.1) := cellStep hb6 (by go_simp); have z2 : w6.cell? ⟨s, 1, none⟩ = some (.int .i64 vSub.1.2) := cellStep hb6 (by go_simp); clear c1 c2 c3 c4 c5 c6 c7 kB e1 e2 e3 e4 f1 f2 f3 f4 HO; obtain ⟨⟨c1, c2, c3, c4, c5, c6, c7, kB⟩, ⟨⟨x0, x1, q1, q2⟩, e3, e4⟩, ⟨⟨y0, y1, f1, f2⟩, f3, f4⟩⟩ := id hN; have HO := Lib.hid hN; clear hN; clear q1 q2; have e1 := z1; have e2 := z2; clear z1 z2) | (go_at_call 19; refine (CMul.out _).mono ?_; rintro e w5 ⟨rfl, hb5⟩; have hN : SpSt w s t a1 a2 b1 b2 n d x w5 := (by first | exact HO.out.step hb5 | exact ((HO.out.swap.set hwt HNE'.out _ _).swap).step hb5); clear c1 c2 c3 c4 c5 c6 c7 kB e1 e2 e3 e4 f1 f2 f3 f4 HO; obtain ⟨⟨c1, c2, c3, c4, c5, c6, c7, kB⟩, ⟨⟨x0, x1, e1, e2⟩, e3, e4⟩, ⟨⟨y0, y1, f1, f2⟩, f3, f4⟩⟩ := id hN; have HO := Lib.hid hN; clear hN) | (go_at_call 48; refine (DMul.out _).mono ?_; rintro e w6 ⟨rfl, hb6⟩; have hN : SpSt w s t a1 a2 b1 b2 n d x w6 := ((HO.out.set hlt0 HNE.out _ _).step hb6); have z1 : w6.cell? ⟨s, 0, none⟩ = some (.int .i64 vMul.1.1) := cellStep hb6 (by go_simp); have z2 : w6.cell? ⟨s, 1, none⟩ = some (.int .i64 vMul.1.2) := cellStep hb6 (by go_simp); clear c1 c2 c3 c4 c5 c6 c7 kB e1 e2 e3 e4 f1 f2 f3 f4 HO; obtain ⟨⟨c1, c2, c3, c4, c5, c6, c7, kB⟩, ⟨⟨x0, x1, q1, q2⟩, e3, e4⟩, ⟨⟨y0, y1, f1, f2⟩, f3, f4⟩⟩ := id hN; have HO := Lib.hid hN; clear hN; clear q1 q2; have e1 := z1; have e2 := z2; clear z1 z2) | (go_at_call 23; refine (CDiv.out _).mono ?_; rintro e w5 ⟨rfl, hb5⟩; have hN : SpSt w s t a1 a2 b1 b2 n d x w5 := (by first | exact HO.out.step hb5 | exact ((HO.out.swap.set hwt HNE'.out _ _).swap).step hb5); clear c1 c2 c3 c4 c5 c6 c7 kB e1 e2 e3 e4 f1 f2 f3 f4 HO; obtain ⟨⟨c1, c2, c3, c4, c5, c6, c7, kB⟩, ⟨⟨x0, x1, e1, e2⟩, e3, e4⟩, ⟨⟨y0, y1, f1, f2⟩, f3, f4⟩⟩ := id hN; have HO := Lib.hid hN; clear hN) | (go_at_call 49; refine (DDiv.out _).mono ?_; rintro e w6 ⟨rfl, hb6⟩; have hN : SpSt w s t a1 a2 b1 b2 n d x w6 := ((HO.out.set hlt0 HNE.out _ _).step hb6); have z1 : w6.cell? ⟨s, 0, none⟩ = some (.int .i64 vDiv.1.1) := cellStep hb6 (by go_simp); have z2 : w6.cell? ⟨s, 1, none⟩ = some (.int .i64 vDiv.1.2) := cellStep hb6 (by go_simp); clear c1 c2 c3 c4 c5 c6 c7 kB e1 e2 e3 e4 f1 f2 f3 f4 HO; obtain ⟨⟨c1, c2, c3, c4, c5, c6, c7, kB⟩, ⟨⟨x0, x1, q1, q2⟩, e3, e4⟩, ⟨⟨y0, y1, f1, f2⟩, f3, f4⟩⟩ := id hN; have HO := Lib.hid hN; clear hN; clear q1 q2; have e1 := z1; have e2 := z2; clear z1 z2) | (go_at_call 14; refine (CMeet.out _).mono ?_; rintro e w5 ⟨rfl, hb5⟩; have hN : SpSt w s t a1 a2 b1 b2 n d x w5 := (by first | exact HO.out.step hb5 | exact ((HO.out.swap.set hwt HNE'.out _ _).swap).step hb5); clear c1 c2 c3 c4 c5 c6 c7 kB e1 e2 e3 e4 f1 f2 f3 f4 HO; obtain ⟨⟨c1, c2, c3, c4, c5, c6, c7, kB⟩, ⟨⟨x0, x1, e1, e2⟩, e3, e4⟩, ⟨⟨y0, y1, f1, f2⟩, f3, f4⟩⟩ := id hN; have HO := Lib.hid hN; clear hN) | (go_at_call 50; refine (DMeet.out _).mono ?_; rintro e w6 ⟨rfl, hb6⟩; have hN : SpSt w s t a1 a2 b1 b2 n d x w6 := ((HO.out.set hlt0 HNE.out _ _).step hb6); have z1 : w6.cell? ⟨s, 0, none⟩ = some (.int .i64 vMeet.1.1) := cellStep hb6 (by go_simp); have z2 : w6.cell? ⟨s, 1, none⟩ = some (.int .i64 vMeet.1.2) := cellStep hb6 (by go_simp); clear c1 c2 c3 c4 c5 c6 c7 kB e1 e2 e3 e4 f1 f2 f3 f4 HO; obtain ⟨⟨c1, c2, c3, c4, c5, c6, c7, kB⟩, ⟨⟨x0, x1, q1, q2⟩, e3, e4⟩, ⟨⟨y0, y1, f1, f2⟩, f3, f4⟩⟩ := id hN; have HO := Lib.hid hN; clear hN; clear q1 q2; have e1 := z1; have e2 := z2; clear z1 z2) | (go_at_call 15; refine (CHull.out _).mono ?_; rintro e w5 ⟨rfl, hb5⟩; have hN : SpSt w s t a1 a2 b1 b2 n d x w5 := (by first | exact HO.out.step hb5 | exact ((HO.out.swap.set hwt HNE'.out _ _).swap).step hb5); clear c1 c2 c3 c4 c5 c6 c7 kB e1 e2 e3 e4 f1 f2 f3 f4 HO; obtain ⟨⟨c1, c2, c3, c4, c5, c6, c7, kB⟩, ⟨⟨x0, x1, e1, e2⟩, e3, e4⟩, ⟨⟨y0, y1, f1, f2⟩, f3, f4⟩⟩ := id hN; have HO := Lib.hid hN; clear hN) | (go_at_call 51; refine (DHull.out _).mono ?_; rintro e w6 ⟨rfl, hb6⟩; have hN : SpSt w s t a1 a2 b1 b2 n d x w6 := ((HO.out.set hlt0 HNE.out _ _).step hb6); have z1 : w6.cell? ⟨s, 0, none⟩ = some (.int .i64 vHull.1.1) := cellStep hb6 (by go_simp); have z2 : w6.cell? ⟨s, 1, none⟩ = some (.int .i64 vHull.1.2) := cellStep hb6 (by go_simp); clear c1 c2 c3 c4 c5 c6 c7 kB e1 e2 e3 e4 f1 f2 f3 f4 HO; obtain ⟨⟨c1, c2, c3, c4, c5, c6, c7, kB⟩, ⟨⟨x0, x1, q1, q2⟩, e3, e4⟩, ⟨⟨y0, y1, f1, f2⟩, f3, f4⟩⟩ := id hN; have HO := Lib.hid hN; clear hN; clear q1 q2; have e1 := z1; have e2 := z2; clear z1 z2) | (go_at_call 18; refine (works_any _).mono ?_; rintro e w8 ⟨rfl, hb8⟩))
  go_ret
  exact ⟨rfl, (by repeat' (first | exact Below.refl _ _ | assumption | apply bDrewN | apply bDrew | apply bAlloc | (refine bSet ?_ ?_ _) | (refine bStep ?_ (by assumption)) | omega | (simp <;> omega)))⟩


end Go.Proofs.Ytjnllfebeeiilaa
