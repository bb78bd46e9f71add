/-
  From a row that lists variables to the walk: the variable of the powers of 10; a deed opened.
-/
import Derived.Test.YtlhponankanlmaaGreatDoorG8Nil9
import Derived.ChangeSlices
import Derived.OpenShut
import Derived.ChangeSame
import Derived.ProofKit
import Derived.LaidSub
import Derived.Lay
import Derived.MakeChecks
import Derived.KernelRfl
import Derived.Test.YtlhponankanlmaaGreatDoorProg
import Derived.Test.YtlhponankanlmaaGreatDoorG0Nil9
import Derived.OwnWalk
set_option linter.unusedSimpArgs false
set_option linter.unusedVariables false
namespace Go.Proofs.YtlhponankanlmaaGreatDoor
open Go.ChangeShapes Go.WideShapes Go.RowKit

theorem glob_of_laid {l : List (String × DataW Unit)} (hd : (l.all fun x => x.2.handleName?.isNone) = true)
    (hl : l.filter (fun x => x.1 == Sx.powN) = [(Sx.powN, Lib.tabData .u64 Lib.pow10Tab)]) {W : World} (h : laidMetH Tryz.prog l W) : Sx.Glob0 W := by
  rw [MakeChecks.laidMetH_plain _ _ _ hd] at h
  have h1 := h.filter (fun x => x.1 == Sx.powN)
  rw [hl] at h1
  exact Sx.glob0_of (Lib.tabIs_of_head (t := 231) (e := 56) (n := 20) Sx.powG_is (by kernel_rfl) Tryz.underlying231 Tryz.underlying56 (by kernel_rfl) (by kernel_rfl) h1)

theorem list15 : ∀ {l : List Value}, l.length = 15 → ∃ c0 c1 c2 c3 c4 c5 c6 c7 c8 c9 c10 c11 c12 c13 c14 : Value, l = [c0, c1, c2, c3, c4, c5, c6, c7, c8, c9, c10, c11, c12, c13, c14]
  | [c0, c1, c2, c3, c4, c5, c6, c7, c8, c9, c10, c11, c12, c13, c14], _ => ⟨c0, c1, c2, c3, c4, c5, c6, c7, c8, c9, c10, c11, c12, c13, c14, rfl⟩
section
variable {H : Type} {enc : TypeId × Value → H} {W : World} {held : Bool} {base : Nat}
set_option maxRecDepth 100000 in
theorem deed_open {v : Value} {d : DataW H} {p : List MemPlace} (hv : Value.okWide Tryz.prog W .any base 71 v) (h : DataW.Trod enc Tryz.prog W 0 (fun _ => true) held 71 v d p) :
    ∃ (c0 c1 c2 c3 c4 c5 c6 c7 c8 c10 c11 c12 c13 c14 : Value) (t : Int), v = .agg #[c0, c1, c2, c3, c4, c5, c6, c7, c8, .int .i64 t, c10, c11, c12, c13, c14] := by
  obtain ⟨cs, rfl, hsz⟩ := okWide_struct Tryz.underlying71 hv
  have h15 : Tryz.prog.cellsOf 71 = 15 := by kernel_rfl
  obtain ⟨l⟩ := cs
  rw [h15] at hsz
  obtain ⟨c0, c1, c2, c3, c4, c5, c6, c7, c8, c9, c10, c11, c12, c13, c14, rfl⟩ := list15 (l := l) (by simpa using hsz)
  obtain ⟨n, ht⟩ := h
  obtain ⟨xs, m, -, -, -, hx, hall⟩ := DataW.trod_struct Tryz.underlying71 (by simpa [Value.cells] using ht)
  have h9 := hall 4 _ rfl
  have hx4 : ∃ x, xs[4]? = some x := ⟨xs[4]'(by rw [hx]; decide), List.getElem?_eq_getElem _⟩
  obtain ⟨x, hx4⟩ := hx4
  rw [hx4] at h9
  obtain ⟨t, ht9, -, -⟩ := DataW.trod_int (k := .i64) Tryz.underlying2 h9
  have e9 : Tryz.prog.cellsOf 2 = 1 := by kernel_rfl
  have hc : c9 = .int .i64 t := by
    have h2 : ([c0, c1, c2, c3, c4, c5, c6, c7, c8, c9, c10, c11, c12, c13, c14].drop 9).take (Tryz.prog.cellsOf 2) = [.int .i64 t] := ht9
    rw [e9] at h2
    simpa using h2
  subst hc
  exact ⟨c0, c1, c2, c3, c4, c5, c6, c7, c8, c10, c11, c12, c13, c14, t, rfl⟩
end
end Go.Proofs.YtlhponankanlmaaGreatDoor

/-
  A registry that is not valid: what each of its methods answers.
-/
set_option linter.unusedSimpArgs false
set_option linter.unusedVariables false
namespace Go.Proofs.YtlhponankanlmaaGreatDoor
open Go.RowKit

/-- A registry that is not valid. -/
def NoReg (p : Value) (W : World) : Prop := p = .pointer none ∨ ∃ B, p = .pointer (some ⟨B, 0, none⟩) ∧ B < W.heap.size ∧ W.cell? ⟨B, 0, none⟩ = some (.int .u64 0)
theorem NoReg.step {p : Value} {W w2 : World} (h : NoReg p W) (hb : Below W.heap.size W w2) : NoReg p w2 := by
  rcases h with h | ⟨B, h1, h2, h3⟩
  · exact Or.inl h
  · exact Or.inr ⟨B, h1, Nat.lt_of_lt_of_le h2 hb.size, (hb.cell (p := ⟨B, 0, none⟩) h2).trans h3⟩
theorem NoReg.box {p : Value} {W : World} (h : NoReg p W) (o : Obj) : NoReg p (W.alloc o) := h.step ((Below.refl _ _).alloc (Nat.le_refl _) _)
set_option maxRecDepth 20000 in
theorem valid_no (p : Value) (W : World) (h : NoReg p W) : Calls Tryz.prog 62 #[p] W fun e w' => e = .returned (.bool false) ∧ W = w' := by
  rcases h with rfl | ⟨B, rfl, -, hc⟩
  all_goals
    go_enter Tryz.func62, Tryz.ntmps62
    go_wp2_with fail
    go_ret
    exact ⟨rfl, rfl⟩
set_option maxRecDepth 20000 in
theorem Recall_no (p : Value) (v1 : Value) (n2 : Int) (v3 : Value) (v4 : Value) (v5 : Value) (v6 : Value) (W : World) (h : NoReg p W) : Calls Tryz.prog 26 #[p, v1, .int .i64 n2, v3, v4, v5, v6] W fun e w' => e = .returned (.tuple #[.slice none 0 0, .int .i64 1]) ∧ Below W.heap.size W w' := by
  have C := Lib.hid (fun W h => valid_no p W h)
  have H := Lib.hid h
  clear h
  go_enter Tryz.func26, Tryz.ntmps26
  go_wp2_with (go_at_call 62; first | (refine (C.out _ H.out).mono ?_; rintro e w1 ⟨rfl, rfl⟩) | (refine (C.out _ (H.out.box _)).mono ?_; rintro e w1 ⟨rfl, rfl⟩))
  exact bodyPost_ret (v := .tuple #[.slice none 0 0, .int .i64 1]) (by simp only [results, Tryz.results26]; go_simp) rfl ⟨rfl, (by repeat' (first | exact Below.refl _ _ | assumption | apply bDrewN | apply bDrew | apply bAlloc | (refine bSet ?_ ?_ _) | (refine bStep ?_ (by assumption)) | omega | (simp <;> omega)))⟩
set_option maxRecDepth 20000 in
theorem Entries_no (p : Value) (v1 : Value) (W : World) (h : NoReg p W) : Calls Tryz.prog 23 #[p, v1] W fun e w' => e = .returned (.tuple #[.slice none 0 0, .int .i64 1]) ∧ Below W.heap.size W w' := by
  have C := Lib.hid (fun W h => valid_no p W h)
  have H := Lib.hid h
  clear h
  go_enter Tryz.func23, Tryz.ntmps23
  go_wp2_with (go_at_call 62; first | (refine (C.out _ H.out).mono ?_; rintro e w1 ⟨rfl, rfl⟩) | (refine (C.out _ (H.out.box _)).mono ?_; rintro e w1 ⟨rfl, rfl⟩))
  exact bodyPost_ret (v := .tuple #[.slice none 0 0, .int .i64 1]) (by simp only [results, Tryz.results23]; go_simp) rfl ⟨rfl, (by repeat' (first | exact Below.refl _ _ | assumption | apply bDrewN | apply bDrew | apply bAlloc | (refine bSet ?_ ?_ _) | (refine bStep ?_ (by assumption)) | omega | (simp <;> omega)))⟩
set_option maxRecDepth 20000 in
theorem Where_no (p : Value) (v1 : Value) (W : World) (h : NoReg p W) : Calls Tryz.prog 30 #[p, v1] W fun e w' => e = .returned (.tuple #[.string ⟨#[]⟩, .int .i64 1]) ∧ Below W.heap.size W w' := by
  have C := Lib.hid (fun W h => valid_no p W h)
  have H := Lib.hid h
  clear h
  go_enter Tryz.func30, Tryz.ntmps30
  go_wp2_with (go_at_call 62; first | (refine (C.out _ H.out).mono ?_; rintro e w1 ⟨rfl, rfl⟩) | (refine (C.out _ (H.out.box _)).mono ?_; rintro e w1 ⟨rfl, rfl⟩))
  exact bodyPost_ret (v := .tuple #[.string ⟨#[]⟩, .int .i64 1]) (by simp only [results, Tryz.results30]; go_simp) rfl ⟨rfl, (by repeat' (first | exact Below.refl _ _ | assumption | apply bDrewN | apply bDrew | apply bAlloc | (refine bSet ?_ ?_ _) | (refine bStep ?_ (by assumption)) | omega | (simp <;> omega)))⟩
set_option maxRecDepth 20000 in
theorem Grade_no (p : Value) (v1 : Value) (W : World) (h : NoReg p W) : Calls Tryz.prog 31 #[p, v1] W fun e w' => e = .returned (.tuple #[.int .i64 0, .int .i64 1]) ∧ Below W.heap.size W w' := by
  have C := Lib.hid (fun W h => valid_no p W h)
  have H := Lib.hid h
  clear h
  go_enter Tryz.func31, Tryz.ntmps31
  go_wp2_with (go_at_call 62; first | (refine (C.out _ H.out).mono ?_; rintro e w1 ⟨rfl, rfl⟩) | (refine (C.out _ (H.out.box _)).mono ?_; rintro e w1 ⟨rfl, rfl⟩))
  exact bodyPost_ret (v := .tuple #[.int .i64 0, .int .i64 1]) (by simp only [results, Tryz.results31]; go_simp) rfl ⟨rfl, (by repeat' (first | exact Below.refl _ _ | assumption | apply bDrewN | apply bDrew | apply bAlloc | (refine bSet ?_ ?_ _) | (refine bStep ?_ (by assumption)) | omega | (simp <;> omega)))⟩
set_option maxRecDepth 20000 in
theorem Enter_no (p : Value) (v1 : Value) (v2 : Value) (x0 x1 x2 x3 x4 x5 : Value) (W : World) (h : NoReg p W) : Calls Tryz.prog 32 #[p, v1, v2, .agg #[x0, x1, x2, x3, x4, x5]] W fun e w' => e = .returned (.int .i64 1) ∧ Below W.heap.size W w' := by
  have C := Lib.hid (fun W h => valid_no p W h)
  have H := Lib.hid h
  clear h
  go_enter Tryz.func32, Tryz.ntmps32
  go_wp2_with (go_at_call 62; first | (refine (C.out _ H.out).mono ?_; rintro e w1 ⟨rfl, rfl⟩) | (refine (C.out _ (H.out.box _)).mono ?_; rintro e w1 ⟨rfl, rfl⟩))
  go_ret
  exact ⟨rfl, (by repeat' (first | exact Below.refl _ _ | assumption | apply bDrewN | apply bDrew | apply bAlloc | (refine bSet ?_ ?_ _) | (refine bStep ?_ (by assumption)) | omega | (simp <;> omega)))⟩
set_option maxRecDepth 20000 in
theorem Move_no (p : Value) (v1 : Value) (v2 : Value) (v3 : Value) (v4 : Value) (W : World) (h : NoReg p W) : Calls Tryz.prog 33 #[p, v1, v2, v3, v4] W fun e w' => e = .returned (.int .i64 1) ∧ Below W.heap.size W w' := by
  have C := Lib.hid (fun W h => valid_no p W h)
  have H := Lib.hid h
  clear h
  go_enter Tryz.func33, Tryz.ntmps33
  go_wp2_with (go_at_call 62; first | (refine (C.out _ H.out).mono ?_; rintro e w1 ⟨rfl, rfl⟩) | (refine (C.out _ (H.out.box _)).mono ?_; rintro e w1 ⟨rfl, rfl⟩))
  go_ret
  exact ⟨rfl, (by repeat' (first | exact Below.refl _ _ | assumption | apply bDrewN | apply bDrew | apply bAlloc | (refine bSet ?_ ?_ _) | (refine bStep ?_ (by assumption)) | omega | (simp <;> omega)))⟩
set_option maxRecDepth 20000 in
theorem Packs_no (p : Value)  (W : World) (h : NoReg p W) : Calls Tryz.prog 34 #[p] W fun e w' => e = .returned (.slice none 0 0) ∧ Below W.heap.size W w' := by
  have C := Lib.hid (fun W h => valid_no p W h)
  have H := Lib.hid h
  clear h
  go_enter Tryz.func34, Tryz.ntmps34
  go_wp2_with (go_at_call 62; first | (refine (C.out _ H.out).mono ?_; rintro e w1 ⟨rfl, rfl⟩) | (refine (C.out _ (H.out.box _)).mono ?_; rintro e w1 ⟨rfl, rfl⟩))
  go_ret
  exact ⟨rfl, (by repeat' (first | exact Below.refl _ _ | assumption | apply bDrewN | apply bDrew | apply bAlloc | (refine bSet ?_ ?_ _) | (refine bStep ?_ (by assumption)) | omega | (simp <;> omega)))⟩
set_option maxRecDepth 20000 in
theorem Left_no (p : Value) (v1 : Value) (W : World) (h : NoReg p W) : Calls Tryz.prog 24 #[p, v1] W fun e w' => e = .returned (.int .i64 0) ∧ Below W.heap.size W w' := by
  have C := Lib.hid (fun W h => valid_no p W h)
  have H := Lib.hid h
  clear h
  go_enter Tryz.func24, Tryz.ntmps24
  go_wp2_with (go_at_call 62; first | (refine (C.out _ H.out).mono ?_; rintro e w1 ⟨rfl, rfl⟩) | (refine (C.out _ (H.out.box _)).mono ?_; rintro e w1 ⟨rfl, rfl⟩))
  go_ret
  exact ⟨rfl, (by repeat' (first | exact Below.refl _ _ | assumption | apply bDrewN | apply bDrew | apply bAlloc | (refine bSet ?_ ?_ _) | (refine bStep ?_ (by assumption)) | omega | (simp <;> omega)))⟩
set_option maxRecDepth 20000 in
theorem Copy_no (p : Value)  (W : World) (h : NoReg p W) : Calls Tryz.prog 35 #[p] W fun e w' => e = .returned (.pointer none) ∧ Below W.heap.size W w' := by
  have C := Lib.hid (fun W h => valid_no p W h)
  have H := Lib.hid h
  clear h
  go_enter Tryz.func35, Tryz.ntmps35
  go_wp2_with (go_at_call 62; first | (refine (C.out _ H.out).mono ?_; rintro e w1 ⟨rfl, rfl⟩) | (refine (C.out _ (H.out.box _)).mono ?_; rintro e w1 ⟨rfl, rfl⟩))
  go_ret
  exact ⟨rfl, (by repeat' (first | exact Below.refl _ _ | assumption | apply bDrewN | apply bDrew | apply bAlloc | (refine bSet ?_ ?_ _) | (refine bStep ?_ (by assumption)) | omega | (simp <;> omega)))⟩
end Go.Proofs.YtlhponankanlmaaGreatDoor

/-
  The walk of the law PassportNil.
-/
set_option linter.unusedSimpArgs false
set_option linter.unusedVariables false
namespace Go.Proofs.YtlhponankanlmaaGreatDoor
open Sx Go.RowKit

/-- The memory in the loop: the deed at B, the two registries at B + 2. -/
def NilMem (B : Nat) (c1 c2 c3 c4 c5 c6 c7 c8 c10 c11 c12 c13 c14 : Value) (t : Int) (W : World) : Prop := W.cell? ⟨B, 1, none⟩ = some c1 ∧ W.cell? ⟨B, 2, none⟩ = some c2 ∧ W.cell? ⟨B, 3, none⟩ = some c3 ∧ W.cell? ⟨B, 4, none⟩ = some c4 ∧ W.cell? ⟨B, 5, none⟩ = some c5 ∧ W.cell? ⟨B, 6, none⟩ = some c6 ∧ W.cell? ⟨B, 7, none⟩ = some c7 ∧ W.cell? ⟨B, 8, none⟩ = some c8 ∧ W.cell? ⟨B, 9, none⟩ = some (.int .i64 t) ∧ W.cell? ⟨B, 10, none⟩ = some c10 ∧ W.cell? ⟨B, 11, none⟩ = some c11 ∧ W.cell? ⟨B, 12, none⟩ = some c12 ∧ W.cell? ⟨B, 13, none⟩ = some c13 ∧ W.cell? ⟨B, 14, none⟩ = some c14 ∧ W.cell? ⟨B + 1 + 1, 0, none⟩ = some (.pointer none) ∧ W.cell? ⟨B + 1 + 1, 1, none⟩ = some (.pointer (some ⟨B + 1, 0, none⟩))
theorem NilMem.step {B : Nat} {c1 c2 c3 c4 c5 c6 c7 c8 c10 c11 c12 c13 c14 : Value} {t : Int} {W w2 : World} (h : NilMem B c1 c2 c3 c4 c5 c6 c7 c8 c10 c11 c12 c13 c14 t W) (hz : B + 1 + 1 < W.heap.size) (hb : Below W.heap.size W w2) : NilMem B c1 c2 c3 c4 c5 c6 c7 c8 c10 c11 c12 c13 c14 t w2 := by
  obtain ⟨f1, f2, f3, f4, f5, f6, f7, f8, f9, f10, f11, f12, f13, f14, g0, g1⟩ := h
  exact ⟨(hb.cell (p := ⟨_, _, none⟩) (by show B < W.heap.size; omega)).trans f1, (hb.cell (p := ⟨_, _, none⟩) (by show B < W.heap.size; omega)).trans f2, (hb.cell (p := ⟨_, _, none⟩) (by show B < W.heap.size; omega)).trans f3, (hb.cell (p := ⟨_, _, none⟩) (by show B < W.heap.size; omega)).trans f4, (hb.cell (p := ⟨_, _, none⟩) (by show B < W.heap.size; omega)).trans f5, (hb.cell (p := ⟨_, _, none⟩) (by show B < W.heap.size; omega)).trans f6, (hb.cell (p := ⟨_, _, none⟩) (by show B < W.heap.size; omega)).trans f7, (hb.cell (p := ⟨_, _, none⟩) (by show B < W.heap.size; omega)).trans f8, (hb.cell (p := ⟨_, _, none⟩) (by show B < W.heap.size; omega)).trans f9, (hb.cell (p := ⟨_, _, none⟩) (by show B < W.heap.size; omega)).trans f10, (hb.cell (p := ⟨_, _, none⟩) (by show B < W.heap.size; omega)).trans f11, (hb.cell (p := ⟨_, _, none⟩) (by show B < W.heap.size; omega)).trans f12, (hb.cell (p := ⟨_, _, none⟩) (by show B < W.heap.size; omega)).trans f13, (hb.cell (p := ⟨_, _, none⟩) (by show B < W.heap.size; omega)).trans f14, (hb.cell (p := ⟨_, _, none⟩) hz).trans g0, (hb.cell (p := ⟨_, _, none⟩) hz).trans g1⟩
set_option maxHeartbeats 4000000 in
set_option maxRecDepth 20000 in
theorem PassportNil_walk (c0 c1 c2 c3 c4 c5 c6 c7 c8 c10 c11 c12 c13 c14 : Value) (t : Int) (w : World) (hG : Glob0 w) :
    Calls Tryz.prog 6 #[.agg #[c0, c1, c2, c3, c4, c5, c6, c7, c8, .int .i64 t, c10, c11, c12, c13, c14]] w fun e w' => e = .returned (.bool true) ∧ Below w.heap.size w w' := by
  have CW := Lib.hid (fun W hG => works_any W hG)
  have HG := Lib.hid hG
  clear hG
  go_enter Tryz.func6, Tryz.ntmps6
  go_wp2_with fail
  have hM : NilMem w.heap.size c1 c2 c3 c4 c5 c6 c7 c8 c10 c11 c12 c13 c14 t (((w.alloc (Obj.cells #[c0, c1, c2, c3, c4, c5, c6, c7, c8, (.int .i64 t), c10, c11, c12, c13, c14] 71)).alloc (Obj.cells #[.int .u64 0, .slice none 0 0, .int .i64 0, .int .i64 0, .int .i64 0, .int .i64 0, .int .i64 0, .int .i64 0, .int .i64 0, .int .i64 0, .slice none 0 0] 75)).alloc (Obj.cells #[.pointer none, .pointer (some ⟨w.heap.size + 1, 0, none⟩)] 47)) := by unfold NilMem; refine ⟨?_, ?_, ?_, ?_, ?_, ?_, ?_, ?_, ?_, ?_, ?_, ?_, ?_, ?_, ?_, ?_⟩ <;> go_simp
  have hN : NoReg (.pointer (some ⟨w.heap.size + 1, 0, none⟩)) (((w.alloc (Obj.cells #[c0, c1, c2, c3, c4, c5, c6, c7, c8, (.int .i64 t), c10, c11, c12, c13, c14] 71)).alloc (Obj.cells #[.int .u64 0, .slice none 0 0, .int .i64 0, .int .i64 0, .int .i64 0, .int .i64 0, .int .i64 0, .int .i64 0, .int .i64 0, .int .i64 0, .slice none 0 0] 75)).alloc (Obj.cells #[.pointer none, .pointer (some ⟨w.heap.size + 1, 0, none⟩)] 47)) := Or.inr ⟨_, rfl, by simp, by go_simp⟩
  have kW : Below w.heap.size w (((w.alloc (Obj.cells #[c0, c1, c2, c3, c4, c5, c6, c7, c8, (.int .i64 t), c10, c11, c12, c13, c14] 71)).alloc (Obj.cells #[.int .u64 0, .slice none 0 0, .int .i64 0, .int .i64 0, .int .i64 0, .int .i64 0, .int .i64 0, .int .i64 0, .int .i64 0, .int .i64 0, .slice none 0 0] 75)).alloc (Obj.cells #[.pointer none, .pointer (some ⟨w.heap.size + 1, 0, none⟩)] 47)) := ((((Below.refl _ w).alloc (Nat.le_refl _) _).alloc (by simp) _).alloc (by first | omega | (simp; omega) | simp) _)
  have hz : w.heap.size + 1 + 1 < ((((w.alloc (Obj.cells #[c0, c1, c2, c3, c4, c5, c6, c7, c8, (.int .i64 t), c10, c11, c12, c13, c14] 71)).alloc (Obj.cells #[.int .u64 0, .slice none 0 0, .int .i64 0, .int .i64 0, .int .i64 0, .int .i64 0, .int .i64 0, .int .i64 0, .int .i64 0, .int .i64 0, .slice none 0 0] 75)).alloc (Obj.cells #[.pointer none, .pointer (some ⟨w.heap.size + 1, 0, none⟩)] 47))).heap.size := by first | (simp; done) | (simp; omega)
  generalize (((w.alloc (Obj.cells #[c0, c1, c2, c3, c4, c5, c6, c7, c8, (.int .i64 t), c10, c11, c12, c13, c14] 71)).alloc (Obj.cells #[.int .u64 0, .slice none 0 0, .int .i64 0, .int .i64 0, .int .i64 0, .int .i64 0, .int .i64 0, .int .i64 0, .int .i64 0, .int .i64 0, .slice none 0 0] 75)).alloc (Obj.cells #[.pointer none, .pointer (some ⟨w.heap.size + 1, 0, none⟩)] 47)) = w3 at *
  have HM := Lib.hid hM
  have HN := Lib.hid hN
  clear hM hN
  go_loopw [4, 5, 6, 7, 8, 9, 10, 11, 12, 13] (fun i _ _ _ _ _ _ _ _ _ wr => ∃ k : Nat, k ≤ 2 ∧ i = .int .i64 k ∧ Below w3.heap.size w3 wr) (fun i _ _ _ _ _ _ _ _ _ _ => 2 - (intOf i).toNat)
  case atStart => exact ⟨0, by omega, rfl, Below.refl _ _⟩
  case round =>
    obtain ⟨k, hk, rfl, kB⟩ := hrel
    have HX : Hid (∀ W, Below w3.heap.size w3 W → NilMem w.heap.size c1 c2 c3 c4 c5 c6 c7 c8 c10 c11 c12 c13 c14 t W) := fun W hb => HM.out.step hz hb
    have HY : Hid (∀ W, Below w3.heap.size w3 W → NoReg (.pointer none) W) := fun W _ => Or.inl rfl
    have HZ : Hid (∀ W, Below w3.heap.size w3 W → NoReg (.pointer (some ⟨w.heap.size + 1, 0, none⟩)) W) := fun W hb => HN.out.step hb
    have hk3 : k = 0 ∨ k = 1 ∨ k = 2 := by omega
    obtain ⟨f1, f2, f3, f4, f5, f6, f7, f8, f9, f10, f11, f12, f13, f14, g0, g1⟩ := HX.out _ kB
    rcases hk3 with rfl | rfl | rfl
    · rw [show ((0 : Nat) : Int) = 0 from rfl]
      go_wp2_with (first
        | (go_at_call 26; refine (Recall_no _ _ _ _ _ _ _ _ (HY.out _ kB)).mono ?_; rintro e w1 ⟨rfl, hb1⟩; have kB := bStep kB hb1; clear f1 f2 f3 f4 f5 f6 f7 f8 f9 f10 f11 f12 f13 f14 g0 g1; obtain ⟨f1, f2, f3, f4, f5, f6, f7, f8, f9, f10, f11, f12, f13, f14, g0, g1⟩ := HX.out _ kB)
        | (go_at_call 23; refine (Entries_no _ _ _ (HY.out _ kB)).mono ?_; rintro e w1 ⟨rfl, hb1⟩; have kB := bStep kB hb1; clear f1 f2 f3 f4 f5 f6 f7 f8 f9 f10 f11 f12 f13 f14 g0 g1; obtain ⟨f1, f2, f3, f4, f5, f6, f7, f8, f9, f10, f11, f12, f13, f14, g0, g1⟩ := HX.out _ kB)
        | (go_at_call 30; refine (Where_no _ _ _ (HY.out _ kB)).mono ?_; rintro e w1 ⟨rfl, hb1⟩; have kB := bStep kB hb1; clear f1 f2 f3 f4 f5 f6 f7 f8 f9 f10 f11 f12 f13 f14 g0 g1; obtain ⟨f1, f2, f3, f4, f5, f6, f7, f8, f9, f10, f11, f12, f13, f14, g0, g1⟩ := HX.out _ kB)
        | (go_at_call 31; refine (Grade_no _ _ _ (HY.out _ kB)).mono ?_; rintro e w1 ⟨rfl, hb1⟩; have kB := bStep kB hb1; clear f1 f2 f3 f4 f5 f6 f7 f8 f9 f10 f11 f12 f13 f14 g0 g1; obtain ⟨f1, f2, f3, f4, f5, f6, f7, f8, f9, f10, f11, f12, f13, f14, g0, g1⟩ := HX.out _ kB)
        | (go_at_call 32; refine (Enter_no _ _ _ _ _ _ _ _ _ _ (HY.out _ kB)).mono ?_; rintro e w1 ⟨rfl, hb1⟩; have kB := bStep kB hb1; clear f1 f2 f3 f4 f5 f6 f7 f8 f9 f10 f11 f12 f13 f14 g0 g1; obtain ⟨f1, f2, f3, f4, f5, f6, f7, f8, f9, f10, f11, f12, f13, f14, g0, g1⟩ := HX.out _ kB)
        | (go_at_call 33; refine (Move_no _ _ _ _ _ _ (HY.out _ kB)).mono ?_; rintro e w1 ⟨rfl, hb1⟩; have kB := bStep kB hb1; clear f1 f2 f3 f4 f5 f6 f7 f8 f9 f10 f11 f12 f13 f14 g0 g1; obtain ⟨f1, f2, f3, f4, f5, f6, f7, f8, f9, f10, f11, f12, f13, f14, g0, g1⟩ := HX.out _ kB)
        | (go_at_call 34; refine (Packs_no _  _ (HY.out _ kB)).mono ?_; rintro e w1 ⟨rfl, hb1⟩; have kB := bStep kB hb1; clear f1 f2 f3 f4 f5 f6 f7 f8 f9 f10 f11 f12 f13 f14 g0 g1; obtain ⟨f1, f2, f3, f4, f5, f6, f7, f8, f9, f10, f11, f12, f13, f14, g0, g1⟩ := HX.out _ kB)
        | (go_at_call 24; refine (Left_no _ _ _ (HY.out _ kB)).mono ?_; rintro e w1 ⟨rfl, hb1⟩; have kB := bStep kB hb1; clear f1 f2 f3 f4 f5 f6 f7 f8 f9 f10 f11 f12 f13 f14 g0 g1; obtain ⟨f1, f2, f3, f4, f5, f6, f7, f8, f9, f10, f11, f12, f13, f14, g0, g1⟩ := HX.out _ kB)
        | (go_at_call 35; refine (Copy_no _  _ (HY.out _ kB)).mono ?_; rintro e w1 ⟨rfl, hb1⟩; have kB := bStep kB hb1; clear f1 f2 f3 f4 f5 f6 f7 f8 f9 f10 f11 f12 f13 f14 g0 g1; obtain ⟨f1, f2, f3, f4, f5, f6, f7, f8, f9, f10, f11, f12, f13, f14, g0, g1⟩ := HX.out _ kB))
      exact ⟨⟨1, by omega, rfl, kB⟩, by simp [intOf]⟩
    · rw [show ((1 : Nat) : Int) = 1 from rfl]
      go_wp2_with (first
        | (go_at_call 26; refine (Recall_no _ _ _ _ _ _ _ _ (HZ.out _ kB)).mono ?_; rintro e w1 ⟨rfl, hb1⟩; have kB := bStep kB hb1; clear f1 f2 f3 f4 f5 f6 f7 f8 f9 f10 f11 f12 f13 f14 g0 g1; obtain ⟨f1, f2, f3, f4, f5, f6, f7, f8, f9, f10, f11, f12, f13, f14, g0, g1⟩ := HX.out _ kB)
        | (go_at_call 23; refine (Entries_no _ _ _ (HZ.out _ kB)).mono ?_; rintro e w1 ⟨rfl, hb1⟩; have kB := bStep kB hb1; clear f1 f2 f3 f4 f5 f6 f7 f8 f9 f10 f11 f12 f13 f14 g0 g1; obtain ⟨f1, f2, f3, f4, f5, f6, f7, f8, f9, f10, f11, f12, f13, f14, g0, g1⟩ := HX.out _ kB)
        | (go_at_call 30; refine (Where_no _ _ _ (HZ.out _ kB)).mono ?_; rintro e w1 ⟨rfl, hb1⟩; have kB := bStep kB hb1; clear f1 f2 f3 f4 f5 f6 f7 f8 f9 f10 f11 f12 f13 f14 g0 g1; obtain ⟨f1, f2, f3, f4, f5, f6, f7, f8, f9, f10, f11, f12, f13, f14, g0, g1⟩ := HX.out _ kB)
        | (go_at_call 31; refine (Grade_no _ _ _ (HZ.out _ kB)).mono ?_; rintro e w1 ⟨rfl, hb1⟩; have kB := bStep kB hb1; clear f1 f2 f3 f4 f5 f6 f7 f8 f9 f10 f11 f12 f13 f14 g0 g1; obtain ⟨f1, f2, f3, f4, f5, f6, f7, f8, f9, f10, f11, f12, f13, f14, g0, g1⟩ := HX.out _ kB)
        | (go_at_call 32; refine (Enter_no _ _ _ _ _ _ _ _ _ _ (HZ.out _ kB)).mono ?_; rintro e w1 ⟨rfl, hb1⟩; have kB := bStep kB hb1; clear f1 f2 f3 f4 f5 f6 f7 f8 f9 f10 f11 f12 f13 f14 g0 g1; obtain ⟨f1, f2, f3, f4, f5, f6, f7, f8, f9, f10, f11, f12, f13, f14, g0, g1⟩ := HX.out _ kB)
        | (go_at_call 33; refine (Move_no _ _ _ _ _ _ (HZ.out _ kB)).mono ?_; rintro e w1 ⟨rfl, hb1⟩; have kB := bStep kB hb1; clear f1 f2 f3 f4 f5 f6 f7 f8 f9 f10 f11 f12 f13 f14 g0 g1; obtain ⟨f1, f2, f3, f4, f5, f6, f7, f8, f9, f10, f11, f12, f13, f14, g0, g1⟩ := HX.out _ kB)
        | (go_at_call 34; refine (Packs_no _  _ (HZ.out _ kB)).mono ?_; rintro e w1 ⟨rfl, hb1⟩; have kB := bStep kB hb1; clear f1 f2 f3 f4 f5 f6 f7 f8 f9 f10 f11 f12 f13 f14 g0 g1; obtain ⟨f1, f2, f3, f4, f5, f6, f7, f8, f9, f10, f11, f12, f13, f14, g0, g1⟩ := HX.out _ kB)
        | (go_at_call 24; refine (Left_no _ _ _ (HZ.out _ kB)).mono ?_; rintro e w1 ⟨rfl, hb1⟩; have kB := bStep kB hb1; clear f1 f2 f3 f4 f5 f6 f7 f8 f9 f10 f11 f12 f13 f14 g0 g1; obtain ⟨f1, f2, f3, f4, f5, f6, f7, f8, f9, f10, f11, f12, f13, f14, g0, g1⟩ := HX.out _ kB)
        | (go_at_call 35; refine (Copy_no _  _ (HZ.out _ kB)).mono ?_; rintro e w1 ⟨rfl, hb1⟩; have kB := bStep kB hb1; clear f1 f2 f3 f4 f5 f6 f7 f8 f9 f10 f11 f12 f13 f14 g0 g1; obtain ⟨f1, f2, f3, f4, f5, f6, f7, f8, f9, f10, f11, f12, f13, f14, g0, g1⟩ := HX.out _ kB))
      exact ⟨⟨2, by omega, rfl, kB⟩, by simp [intOf]⟩
    · rw [show ((2 : Nat) : Int) = 2 from rfl]
      have kC := bStep kW kB
      clear HX HY HZ HM HN f1 f2 f3 f4 f5 f6 f7 f8 f9 f10 f11 f12 f13 f14 g0 g1
      go_wp2_with (go_at_call 11; refine (CW.out _ (glob_step HG.out kC)).mono ?_; rintro e w7 ⟨rfl, hb7⟩)
      go_ret
      exact ⟨rfl, bStep kC hb7⟩
end Go.Proofs.YtlhponankanlmaaGreatDoor
