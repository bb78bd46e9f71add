/-
  The walk of the law's 'one'.
-/
import Derived.Test.YtjnllfebeeiilaaL1
set_option linter.unusedSimpArgs false
set_option linter.unusedVariables false
namespace Go.Proofs.Ytjnllfebeeiilaa
open Go.RowKit

/-- What 'one' keeps: the asking's box, the two spans' boxes. -/
def OneSt (w : World) (s t : Nat) (a1 a2 n d x : Int) (W : World) : Prop :=
  W.cell? ⟨w.heap.size, 0, none⟩ = some (.int .i64 a1) ∧ W.cell? ⟨w.heap.size, 1, none⟩ = some (.int .i64 a2) ∧ W.cell? ⟨w.heap.size, 4, none⟩ = some (.int .i64 n) ∧ W.cell? ⟨w.heap.size, 5, none⟩ = some (.int .i64 d) ∧
  W.cell? ⟨w.heap.size, 6, none⟩ = some (.int .i64 x) ∧ ResBox s W ∧ ResBox t W ∧ Below w.heap.size w W
theorem OneSt.step {w W w2 : World} {s t : Nat} {a1 a2 n d x : Int} (h : OneSt w s t a1 a2 n d x W) (hb : Below W.heap.size W w2) : OneSt w s t a1 a2 n d x w2 := by
  obtain ⟨h1, h2, h3, h4, h5, h6, h7, h8⟩ := h
  exact ⟨cell_step h1 hb, cell_step h2 hb, cell_step h3 hb, cell_step h4 hb, cell_step h5 hb, h6.step hb, h7.step hb, bStep h8 hb⟩
theorem OneSt.drew {w W : World} {s t : Nat} {a1 a2 n d x : Int} (h : OneSt w s t a1 a2 n d x W) : OneSt w s t a1 a2 n d x W.drew := h.step (Below.refl _ _).drew
theorem ResBox.setFar {W : World} {r q : Nat} (h : ResBox r W) (hne : r ≠ q) (o : Nat) (v : Value) : ResBox r (W.setCell ⟨q, o, none⟩ v) := by
  obtain ⟨⟨x0, x1, h1, h2⟩, h3, h4⟩ := h
  refine ⟨⟨x0, x1, cell_set_far h1 hne, cell_set_far h2 hne⟩, ?_, ?_⟩
  · exact (World.frozen?_of_block (w := W) (Below.heap_setCell W _ _ _ hne)).trans h3
  · exact (World.frozen?_of_block (w := W) (Below.heap_setCell W _ _ _ hne)).trans h4
theorem OneSt.set {w W : World} {s t : Nat} {a1 a2 n d x : Int} (h : OneSt w s t a1 a2 n d x W) (hs : w.heap.size < s) (hne : t ≠ s) (v0 v1 : Value) :
    OneSt w s t a1 a2 n d x ((W.setCell ⟨s, 0, none⟩ v0).setCell ⟨s, 1, none⟩ v1) := by
  obtain ⟨h1, h2, h3, h4, h5, h6, h7, h8⟩ := h
  have e : w.heap.size ≠ s := by omega
  exact ⟨cell_set_far (cell_set_far h1 e) e, cell_set_far (cell_set_far h2 e) e, cell_set_far (cell_set_far h3 e) e, cell_set_far (cell_set_far h4 e) e, cell_set_far (cell_set_far h5 e) e, h6.set v0 v1, (h7.setFar hne _ _).setFar hne _ _, bSet (bSet h8 (Nat.le_of_lt hs) _) (Nat.le_of_lt hs) _⟩
theorem OneSt.swap {w W : World} {s t : Nat} {a1 a2 n d x : Int} (h : OneSt w s t a1 a2 n d x W) : OneSt w t s a1 a2 n d x W := by
  obtain ⟨h1, h2, h3, h4, h5, h6, h7, h8⟩ := h
  exact ⟨h1, h2, h3, h4, h5, h7, h6, h8⟩

theorem keep7 {w W w2 : World} {s t : Nat} {a1 a2 n d x : Int} {p1 p2 p3 p4 p5 p6 p7 : Addr} {v1 v2 v3 v4 v5 v6 v7 : Value}
    (h : W.cell? p1 = some v1 ∧ W.cell? p2 = some v2 ∧ W.cell? p3 = some v3 ∧ W.cell? p4 = some v4 ∧ W.cell? p5 = some v5 ∧ W.cell? p6 = some v6 ∧ W.cell? p7 = some v7 ∧ OneSt w s t a1 a2 n d x W) (hb : Below W.heap.size W w2) :
    w2.cell? p1 = some v1 ∧ w2.cell? p2 = some v2 ∧ w2.cell? p3 = some v3 ∧ w2.cell? p4 = some v4 ∧ w2.cell? p5 = some v5 ∧ w2.cell? p6 = some v6 ∧ w2.cell? p7 = some v7 ∧ OneSt w s t a1 a2 n d x w2 := by
  obtain ⟨h1, h2, h3, h4, h5, h6, h7, h8⟩ := h
  exact ⟨cell_step h1 hb, cell_step h2 hb, cell_step h3 hb, cell_step h4 hb, cell_step h5 hb, cell_step h6 hb, cell_step h7 hb, h8.step hb⟩

set_option maxHeartbeats 4000000 in
set_option maxRecDepth 20000 in
theorem one_any (a : Int × Int) (b1 b2 n d x : Int) (w : World) :
    Calls Try.prog 44 #[.agg #[.int .i64 a.1, .int .i64 a.2, .int .i64 b1, .int .i64 b2, .int .i64 n, .int .i64 d, .int .i64 x]] w fun e w' => e = .returned (.bool true) ∧ Below w.heap.size w w' := by
  have CNeg := Lib.hid (fun w => Neg_any a w)
  have DNeg := Lib.hid (fun w => RNeg_any a w)
  have CScale := Lib.hid (fun w => Scale_any a n d w)
  have DScale := Lib.hid (fun w => RScale_any a n d w)
  have CSquare := Lib.hid (fun w => Square_any a d w)
  have DSquare := Lib.hid (fun w => RSquare_any a d w)
  have CGrow := Lib.hid (fun w => Grow_any a d w)
  have DGrow := Lib.hid (fun w => RGrow_any a d w)
  have CClip := Lib.hid (fun w => Clip_any a n d w)
  have DClip := Lib.hid (fun w => RClip_any a n d w)
  have CWidth := Lib.hid (fun w => Width_any a w)
  have DWidth := Lib.hid (fun w => RWidth_any a w)
  have CMiddle := Lib.hid (fun w => Middle_any a w)
  have DMiddle := Lib.hid (fun w => RMiddle_any a w)
  have CCheck := Lib.hid (fun w => Check_any a w)
  have DCheck := Lib.hid (fun w => RCheck_any a w)
  have CHas := Lib.hid (fun w => Has_any a x w)
  have DHas := Lib.hid (fun w => RHas_any a x w)
  generalize negS a = vNeg at *
  generalize scaleS a n d = vScale at *
  generalize squareS a d = vSquare at *
  generalize growS a d = vGrow at *
  generalize clipS a n d = vClip at *
  generalize widthS a = vWidth at *
  generalize middleS a = vMiddle at *
  generalize checkS a = vCheck at *
  generalize hasS a x = vHas at *
  obtain ⟨a1, a2⟩ := a
  dsimp only at *
  go_enter Try.func44, Try.ntmps44
  go_wp2_with (first | (go_at_call 35; refine (CNeg.out _).mono ?_; rintro e w1 ⟨rfl, hb⟩; obtain ⟨hcw1, hfw1⟩ := bcell hb; have hzw1 := Below.size hb; (try simp at hzw1); have hzw10 : w.heap.size < w1.heap.size := (by omega)) | (go_at_call 102; refine (DNeg.out _).mono ?_; rintro e w2 ⟨rfl, hb2⟩; obtain ⟨hcw2, hfw2⟩ := bcell hb2; have hzw2 := Below.size hb2; (try simp at hzw2); have hzw20 : w.heap.size < w2.heap.size := (by omega); have hlt : w1.heap.size < w2.heap.size := (by omega)))
  have hS : OneSt w w1.heap.size w2.heap.size a1 a2 n d x (w2.alloc (Obj.cells #[Value.int IntKind.i64 vNeg.fst.fst, Value.int IntKind.i64 vNeg.fst.snd] 27)) := by
    refine ⟨?_, ?_, ?_, ?_, ?_, ⟨⟨.int .i64 vNeg.1.1, .int .i64 vNeg.1.2, ?_, ?_⟩, ?_, ?_⟩, ⟨⟨.int .i64 vNeg.1.1, .int .i64 vNeg.1.2, ?_, ?_⟩, ?_, ?_⟩, (by repeat' (first | exact Below.refl _ _ | assumption | apply bDrewN | apply bDrew | apply bAlloc | (refine bSet ?_ ?_ _) | (refine bStep ?_ (by assumption)) | omega | (simp <;> omega)))⟩ <;> go_simp
  have k1 : (w2.alloc (Obj.cells #[Value.int IntKind.i64 vNeg.fst.fst, Value.int IntKind.i64 vNeg.fst.snd] 27)).cell? ⟨w1.heap.size, 0, none⟩ = some (.int .i64 vNeg.1.1) := by go_simp
  have k2 : (w2.alloc (Obj.cells #[Value.int IntKind.i64 vNeg.fst.fst, Value.int IntKind.i64 vNeg.fst.snd] 27)).cell? ⟨w1.heap.size, 1, none⟩ = some (.int .i64 vNeg.1.2) := by go_simp
  have k3 : (w2.alloc (Obj.cells #[Value.int IntKind.i64 vNeg.fst.fst, Value.int IntKind.i64 vNeg.fst.snd] 27)).cell? ⟨w2.heap.size, 0, none⟩ = some (.int .i64 vNeg.1.1) := by go_simp
  have k4 : (w2.alloc (Obj.cells #[Value.int IntKind.i64 vNeg.fst.fst, Value.int IntKind.i64 vNeg.fst.snd] 27)).cell? ⟨w2.heap.size, 1, none⟩ = some (.int .i64 vNeg.1.2) := by go_simp
  generalize w2.alloc (Obj.cells #[Value.int IntKind.i64 vNeg.fst.fst, Value.int IntKind.i64 vNeg.fst.snd] 27) = W0 at *
  clear hb hcw1 hfw1 hzw1 hb2 hcw2 hfw2 hzw2 hzw20
  generalize w1.heap.size = s at *
  generalize w2.heap.size = t at *
  have hS7 : W0.cell? ⟨s, 0, none⟩ = some (.int .i64 vNeg.1.1) ∧ W0.cell? ⟨s, 1, none⟩ = some (.int .i64 vNeg.1.2) ∧ W0.cell? ⟨t, 0, none⟩ = some (.int .i64 vNeg.1.1) ∧ W0.cell? ⟨t, 1, none⟩ = some (.int .i64 vNeg.1.2) ∧
    W0.cell? ⟨w.heap.size, 0, none⟩ = some (.int .i64 a1) ∧ W0.cell? ⟨w.heap.size, 1, none⟩ = some (.int .i64 a2) ∧ W0.cell? ⟨w.heap.size, 6, none⟩ = some (.int .i64 x) ∧ OneSt w s t a1 a2 n d x W0 := ⟨k1, k2, k3, k4, hS.1, hS.2.1, hS.2.2.2.2.1, hS⟩
  have HS7 := Lib.hid hS7
  clear k1 k2 k3 k4 hS hS7
  go_region_held3 (fun W => W.cell? ⟨s, 0, none⟩ = some (.int .i64 vNeg.1.1) ∧ W.cell? ⟨s, 1, none⟩ = some (.int .i64 vNeg.1.2) ∧ W.cell? ⟨t, 0, none⟩ = some (.int .i64 vNeg.1.1) ∧ W.cell? ⟨t, 1, none⟩ = some (.int .i64 vNeg.1.2) ∧
    W.cell? ⟨w.heap.size, 0, none⟩ = some (.int .i64 a1) ∧ W.cell? ⟨w.heap.size, 1, none⟩ = some (.int .i64 a2) ∧ W.cell? ⟨w.heap.size, 6, none⟩ = some (.int .i64 x) ∧ OneSt w s t a1 a2 n d x W)
    ((first | exact keep7 HS7.out (Below.refl _ _).drew | exact keep7 (by assumption) (by assumption)))
    ((first | (go_at_call 103; refine (CCheck.out _).mono ?_; rintro e w5 ⟨rfl, hb5⟩) | (go_at_call 104; refine (DCheck.out _).mono ?_; rintro e w5 ⟨rfl, hb5⟩) | (go_at_call 17; refine (CHas.out _).mono ?_; rintro e w5 ⟨rfl, hb5⟩) | (go_at_call 105; refine (DHas.out _).mono ?_; rintro e w5 ⟨rfl, hb5⟩)))
  have hO := (‹_ ∧ _ ∧ _ ∧ _ ∧ _ ∧ _ ∧ _ ∧ OneSt _ _ _ _ _ _ _ _ _›).2.2.2.2.2.2.2
  obtain ⟨c1, c2, c3, c4, c5, ⟨⟨x0, x1, e1, e2⟩, e3, e4⟩, ⟨⟨y0, y1, f1, f2⟩, f3, f4⟩, kB⟩ := id hO
  have hwt : w.heap.size < t := by omega
  have hne : t ≠ s := by omega
  have hne' : s ≠ t := by omega
  have HNE := Lib.hid hne
  have HNE' := Lib.hid hne'
  have HO := Lib.hid hO
  clear hO hne hne'
  have hlt0 : w.heap.size < s := by omega
  go_wp2_with (first | (go_at_call 21; go_loud (refine (CScale.out _).mono ?_; rintro e w5 ⟨rfl, hb5⟩; have hN : OneSt w s t a1 a2 n d x w5 := (by first | exact HO.out.step hb5 | exact ((HO.out.swap.set hwt HNE'.out _ _).swap).step hb5); clear c1 c2 c3 c4 c5 e1 e2 e3 e4 f1 f2 f3 f4 kB HO; obtain ⟨c1, c2, c3, c4, c5, ⟨⟨x0, x1, e1, e2⟩, e3, e4⟩, ⟨⟨y0, y1, f1, f2⟩, f3, f4⟩, kB⟩ := id hN; have HO := Lib.hid hN; clear hN)) | (go_at_call 106; go_loud (refine (DScale.out _).mono ?_; rintro e w6 ⟨rfl, hb6⟩; have hN : OneSt w s t a1 a2 n d x w6 := ((HO.out.set hlt0 HNE.out _ _).step hb6); have z1 : w6.cell? ⟨s, 0, none⟩ = some (.int .i64 vScale.1.1) := cellStep hb6 (by go_simp); have z2 : w6.cell? ⟨s, 1, none⟩ = some (.int .i64 vScale.1.2) := cellStep hb6 (by go_simp); clear c1 c2 c3 c4 c5 e1 e2 e3 e4 f1 f2 f3 f4 kB HO; obtain ⟨c1, c2, c3, c4, c5, ⟨⟨x0, x1, q1, q2⟩, e3, e4⟩, ⟨⟨y0, y1, f1, f2⟩, f3, f4⟩, kB⟩ := id hN; have HO := Lib.hid hN; clear hN; clear q1 q2; have e1 := z1; have e2 := z2; clear z1 z2)) | (go_at_call 22; go_loud (refine (CSquare.out _).mono ?_; rintro e w5 ⟨rfl, hb5⟩; have hN : OneSt w s t a1 a2 n d x w5 := (by first | exact HO.out.step hb5 | exact ((HO.out.swap.set hwt HNE'.out _ _).swap).step hb5); clear c1 c2 c3 c4 c5 e1 e2 e3 e4 f1 f2 f3 f4 kB HO; obtain ⟨c1, c2, c3, c4, c5, ⟨⟨x0, x1, e1, e2⟩, e3, e4⟩, ⟨⟨y0, y1, f1, f2⟩, f3, f4⟩, kB⟩ := id hN; have HO := Lib.hid hN; clear hN)) | (go_at_call 107; go_loud (refine (DSquare.out _).mono ?_; rintro e w6 ⟨rfl, hb6⟩; have hN : OneSt w s t a1 a2 n d x w6 := ((HO.out.set hlt0 HNE.out _ _).step hb6); have z1 : w6.cell? ⟨s, 0, none⟩ = some (.int .i64 vSquare.1.1) := cellStep hb6 (by go_simp); have z2 : w6.cell? ⟨s, 1, none⟩ = some (.int .i64 vSquare.1.2) := cellStep hb6 (by go_simp); clear c1 c2 c3 c4 c5 e1 e2 e3 e4 f1 f2 f3 f4 kB HO; obtain ⟨c1, c2, c3, c4, c5, ⟨⟨x0, x1, q1, q2⟩, e3, e4⟩, ⟨⟨y0, y1, f1, f2⟩, f3, f4⟩, kB⟩ := id hN; have HO := Lib.hid hN; clear hN; clear q1 q2; have e1 := z1; have e2 := z2; clear z1 z2)) | (go_at_call 93; go_loud (refine (CGrow.out _).mono ?_; rintro e w5 ⟨rfl, hb5⟩; have hN : OneSt w s t a1 a2 n d x w5 := (by first | exact HO.out.step hb5 | exact ((HO.out.swap.set hwt HNE'.out _ _).swap).step hb5); clear c1 c2 c3 c4 c5 e1 e2 e3 e4 f1 f2 f3 f4 kB HO; obtain ⟨c1, c2, c3, c4, c5, ⟨⟨x0, x1, e1, e2⟩, e3, e4⟩, ⟨⟨y0, y1, f1, f2⟩, f3, f4⟩, kB⟩ := id hN; have HO := Lib.hid hN; clear hN)) | (go_at_call 108; go_loud (refine (DGrow.out _).mono ?_; rintro e w6 ⟨rfl, hb6⟩; have hN : OneSt w s t a1 a2 n d x w6 := ((HO.out.set hlt0 HNE.out _ _).step hb6); have z1 : w6.cell? ⟨s, 0, none⟩ = some (.int .i64 vGrow.1.1) := cellStep hb6 (by go_simp); have z2 : w6.cell? ⟨s, 1, none⟩ = some (.int .i64 vGrow.1.2) := cellStep hb6 (by go_simp); clear c1 c2 c3 c4 c5 e1 e2 e3 e4 f1 f2 f3 f4 kB HO; obtain ⟨c1, c2, c3, c4, c5, ⟨⟨x0, x1, q1, q2⟩, e3, e4⟩, ⟨⟨y0, y1, f1, f2⟩, f3, f4⟩, kB⟩ := id hN; have HO := Lib.hid hN; clear hN; clear q1 q2; have e1 := z1; have e2 := z2; clear z1 z2)) | (go_at_call 92; go_loud (refine (CClip.out _).mono ?_; rintro e w5 ⟨rfl, hb5⟩; have hN : OneSt w s t a1 a2 n d x w5 := (by first | exact HO.out.step hb5 | exact ((HO.out.swap.set hwt HNE'.out _ _).swap).step hb5); clear c1 c2 c3 c4 c5 e1 e2 e3 e4 f1 f2 f3 f4 kB HO; obtain ⟨c1, c2, c3, c4, c5, ⟨⟨x0, x1, e1, e2⟩, e3, e4⟩, ⟨⟨y0, y1, f1, f2⟩, f3, f4⟩, kB⟩ := id hN; have HO := Lib.hid hN; clear hN)) | (go_at_call 109; go_loud (refine (DClip.out _).mono ?_; rintro e w6 ⟨rfl, hb6⟩; have hN : OneSt w s t a1 a2 n d x w6 := ((HO.out.set hlt0 HNE.out _ _).step hb6); have z1 : w6.cell? ⟨s, 0, none⟩ = some (.int .i64 vClip.1.1) := cellStep hb6 (by go_simp); have z2 : w6.cell? ⟨s, 1, none⟩ = some (.int .i64 vClip.1.2) := cellStep hb6 (by go_simp); clear c1 c2 c3 c4 c5 e1 e2 e3 e4 f1 f2 f3 f4 kB HO; obtain ⟨c1, c2, c3, c4, c5, ⟨⟨x0, x1, q1, q2⟩, e3, e4⟩, ⟨⟨y0, y1, f1, f2⟩, f3, f4⟩, kB⟩ := id hN; have HO := Lib.hid hN; clear hN; clear q1 q2; have e1 := z1; have e2 := z2; clear z1 z2)) | (go_at_call 110; go_loud (refine (CWidth.out _).mono ?_; rintro e w5 ⟨rfl, hb5⟩; have hN : OneSt w s t a1 a2 n d x w5 := (by first | exact HO.out.step hb5 | exact ((HO.out.swap.set hwt HNE'.out _ _).swap).step hb5); clear c1 c2 c3 c4 c5 e1 e2 e3 e4 f1 f2 f3 f4 kB HO; obtain ⟨c1, c2, c3, c4, c5, ⟨⟨x0, x1, e1, e2⟩, e3, e4⟩, ⟨⟨y0, y1, f1, f2⟩, f3, f4⟩, kB⟩ := id hN; have HO := Lib.hid hN; clear hN)) | (go_at_call 111; go_loud (refine (DWidth.out _).mono ?_; rintro e w6 ⟨rfl, hb6⟩; have hN : OneSt w s t a1 a2 n d x w6 := (HO.out.step hb6); clear c1 c2 c3 c4 c5 e1 e2 e3 e4 f1 f2 f3 f4 kB HO; obtain ⟨c1, c2, c3, c4, c5, ⟨⟨x0, x1, e1, e2⟩, e3, e4⟩, ⟨⟨y0, y1, f1, f2⟩, f3, f4⟩, kB⟩ := id hN; have HO := Lib.hid hN; clear hN)) | (go_at_call 112; go_loud (refine (CMiddle.out _).mono ?_; rintro e w5 ⟨rfl, hb5⟩; have hN : OneSt w s t a1 a2 n d x w5 := (by first | exact HO.out.step hb5 | exact ((HO.out.swap.set hwt HNE'.out _ _).swap).step hb5); clear c1 c2 c3 c4 c5 e1 e2 e3 e4 f1 f2 f3 f4 kB HO; obtain ⟨c1, c2, c3, c4, c5, ⟨⟨x0, x1, e1, e2⟩, e3, e4⟩, ⟨⟨y0, y1, f1, f2⟩, f3, f4⟩, kB⟩ := id hN; have HO := Lib.hid hN; clear hN)) | (go_at_call 113; go_loud (refine (DMiddle.out _).mono ?_; rintro e w6 ⟨rfl, hb6⟩; have hN : OneSt w s t a1 a2 n d x w6 := (HO.out.step hb6); clear c1 c2 c3 c4 c5 e1 e2 e3 e4 f1 f2 f3 f4 kB HO; obtain ⟨c1, c2, c3, c4, c5, ⟨⟨x0, x1, e1, e2⟩, e3, e4⟩, ⟨⟨y0, y1, f1, f2⟩, f3, f4⟩, kB⟩ := id hN; have HO := Lib.hid hN; clear hN)))


  go_ret
  exact ⟨rfl, kB⟩


end Go.Proofs.Ytjnllfebeeiilaa
