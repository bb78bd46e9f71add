/-
 The reference's Can.
-/
import Derived.Test.YtmpilgkfbibhlaaGreatDoorG23Verifies
import Derived.Test.YtmpilgkfbibhlaaGreatDoorG21Verifies
import Derived.Test.YtmpilgkfbibhlaaGreatDoorG13Verifies
import Derived.Deep.Cut
import Derived.Test.YtmpilgkfbibhlaaGreatDoorG15Verifies
import Derived.Lib.Split
import Derived.Lib.SplitLaws
import Derived.Lib.ParseIntBTie
set_option linter.unusedSimpArgs false
set_option linter.unusedVariables false
namespace Go.Proofs.YtmpilgkfbibhlaaGreatDoor
open Go.RowKit Mr
theorem canR_A {name : ByteArray} {h : List Evt} {z e : Evt} (hz : h.getLast? = some z) (hk : e.1 = 1 ∨ e.2.1 < z.2.1 ∨ z.1 = 9) : canR name h e = false := by
 unfold canR
 rw [hz]
 dsimp only
 rcases hk with hk | hk | hk <;> simp [hk]
theorem canR_D {name : ByteArray} {h : List Evt} {z e : Evt} (hz : h.getLast? = some z) (h1 : ¬ e.1 = 1) (h2 : ¬ e.2.1 < z.2.1) (h3 : ¬ z.1 = 9) : canR name h e = ruleB name (modsOf name h) (opnsOf h) e := by
 unfold canR
 rw [hz]
 simp [h1, h2, h3]
theorem dec_zero (n : Nat) : decide (n = 0) = ((n : Int) == 0) := by
 by_cases e : n = 0
 ·rw [decide_eq_true e, e]; rfl
 ·rw [decide_eq_false e]; symm; simpa using e
structure CnS (w0 : World) (L : List ByteArray) (r q : Bool) (b0 b1 b2 b3 : Bool) (v0 v1 v2 v3 : Value) (W : World) : Prop where
 bel : Below w0.heap.size w0 W
 o0 : b0 = true → SRow v0 L W
 e1 : b1 = true → v1 = .bool r
 e2 : b2 = true → v2 = .bool q
 e3 : b3 = true → v3 = .bool q
theorem CnS.step {w0 W w2 : World} {L : List ByteArray} {r q b0 b1 b2 b3 : Bool} {v0 v1 v2 v3 : Value} (h : CnS w0 L r q b0 b1 b2 b3 v0 v1 v2 v3 W) (hb : Below W.heap.size W w2) : CnS w0 L r q b0 b1 b2 b3 v0 v1 v2 v3 w2 := ⟨bStep h.bel hb, fun e => (h.o0 e).step hb, h.e1, h.e2, h.e3⟩
theorem ruleB_5 (name : ByteArray) (ms os : List ByteArray) (t a b : Int) (nm ot : ByteArray) : ruleB name ms os (5, t, a, b, nm, ot) = (!(hasT ms nm) && decide (ms.length < 32) && !(eqT ot name)) := by simp [ruleB]
theorem ruleB_6 (name : ByteArray) (ms os : List ByteArray) (t a b : Int) (nm ot : ByteArray) : ruleB name ms os (6, t, a, b, nm, ot) = (hasT ms nm && !(eqT ot name)) := by simp [ruleB]
theorem ruleB_7 (name : ByteArray) (ms os : List ByteArray) (t a b : Int) (nm ot : ByteArray) : ruleB name ms os (7, t, a, b, nm, ot) = !(hasT os nm) := by simp [ruleB]
theorem ruleB_8 (name : ByteArray) (ms os : List ByteArray) (t a b : Int) (nm ot : ByteArray) : ruleB name ms os (8, t, a, b, nm, ot) = hasT os nm := by simp [ruleB]
theorem ruleB_9 (name : ByteArray) (ms os : List ByteArray) (t a b : Int) (nm ot : ByteArray) : ruleB name ms os (9, t, a, b, nm, ot) = decide (ms.length = 0) := by simp [ruleB]
theorem ruleB_0 (name : ByteArray) (ms os : List ByteArray) {k : Int} (t a b : Int) (nm ot : ByteArray) (h1 : ¬ k = 1) (h5 : ¬ k = 5) (h6 : ¬ k = 6) (h7 : ¬ k = 7) (h8 : ¬ k = 8) (h9 : ¬ k = 9) : ruleB name ms os (k, t, a, b, nm, ot) = true := by simp [ruleB, h1, h5, h6, h7, h8, h9]
set_option maxHeartbeats 4000000 in
set_option maxRecDepth 20000 in
theorem RCan_0 {a : Option Addr} {w : World} (c : Nat) (name : ByteArray) (k t a1 b1 : Int) (nm ot : ByteArray) :
  Calls Tryz.prog 50 #[.string name, .slice a 0 c, .agg #[.int .i64 k, .int .i64 t, .int .i64 a1, .int .i64 b1, .string nm, .string ot]] w fun en w' => en = .returned (.bool (canR name [] (k, t, a1, b1, nm, ot))) ∧ Below w.heap.size w w' := by
 rw [show canR name [] (k, t, a1, b1, nm, ot) = decide (k = 1) from rfl]
 go_enter Tryz.func50, Tryz.ntmps50
 go_wp2_with fail
 exact bodyPost_ret (v := .bool (k == 1)) (by simp only [results, Tryz.results50]; go_simp) rfl ⟨rfl, bAl⟩
set_option maxHeartbeats 4000000 in
set_option maxRecDepth 20000 in
theorem RCan_A {a : Option Addr} {h : List Evt} {w : World} (c j : Nat) (name : ByteArray) (hh : EvAt a h w) (hl : h.length ≤ 10000) (hj : h.length = j + 1) (z : Evt) (hz : h[j]? = some z) (k t a1 b1 : Int) (nm ot : ByteArray) (h1 : (k == 1) = true) : Calls Tryz.prog 50 #[.string name, .slice a h.length c, .agg #[.int .i64 k, .int .i64 t, .int .i64 a1, .int .i64 b1, .string nm, .string ot]] w fun en w' => en = .returned (.bool false) ∧ Below w.heap.size w w' := by
 obtain ⟨b, off, rfl, hb0, hcs⟩ := hh (by rintro rfl; simp at hj)
 have HX := Lib.hid (blk_new w (.cells #[.int .i64 k, .int .i64 t, .int .i64 a1, .int .i64 b1, .string nm, .string ot] 29))
 have HB0 := Lib.hid (bAl (W := w) (o := (.cells #[.int .i64 k, .int .i64 t, .int .i64 a1, .int .i64 b1, .string nm, .string ot] 29)))
 have hZ0 : (w.alloc (.cells #[.int .i64 k, .int .i64 t, .int .i64 a1, .int .i64 b1, .string nm, .string ot] 29)).cell? ⟨b, off + j * 6, none⟩ = some (.int .i64 z.1) := cell_step (hcs j z hz 0 _ rfl) HB0.out
 have hZ1 : (w.alloc (.cells #[.int .i64 k, .int .i64 t, .int .i64 a1, .int .i64 b1, .string nm, .string ot] 29)).cell? ⟨b, off + j * 6 + 1, none⟩ = some (.int .i64 z.2.1) := cell_step (hcs j z hz 1 _ rfl) HB0.out
 have hj1 : (h.length : Int) - 1 = (j : Int) := by omega
 have hj2 : (j : Int) < h.length := by omega
 have hj3 : j < h.length := by omega
 have hj4 : ¬ h.length = 0 := by omega
 have hj0 : (0 : Int) ≤ j := by omega
 have hjw : IntKind.i64.wrap (j : Int) = (j : Int) := Go.IntWalk.i64_in _ ⟨by omega, by omega⟩
 have HLN := Lib.hid (And.intro hl hj)
 obtain ⟨zk, zt, z3, z4, z5, z6⟩ := z
 dsimp only at hZ0 hZ1
 have hne : ((h.length : Int) == 0) = false := by simpa using hj4
 clear hcs hh hl hj hz 
 go_enter Tryz.func50, Tryz.ntmps50
 go_upto_region 3 with fail
 have u0 : ∀ s : WStep (w.alloc (.cells #[.int .i64 k, .int .i64 t, .int .i64 a1, .int .i64 b1, .string nm, .string ot] 29)), s.1.cell? ⟨w.heap.size, 0, none⟩ = some (.int .i64 k) := fun s => cell_step (blk_cell HX.out rfl) s.2
 have u1 : ∀ s : WStep (w.alloc (.cells #[.int .i64 k, .int .i64 t, .int .i64 a1, .int .i64 b1, .string nm, .string ot] 29)), s.1.cell? ⟨w.heap.size, 1, none⟩ = some (.int .i64 t) := fun s => cell_step (blk_cell HX.out rfl) s.2
 have z0 : ∀ s : WStep (w.alloc (.cells #[.int .i64 k, .int .i64 t, .int .i64 a1, .int .i64 b1, .string nm, .string ot] 29)), s.1.cell? ⟨b, off + j * 6, none⟩ = some (.int .i64 zk) := fun s => cell_step hZ0 s.2
 have z1 : ∀ s : WStep (w.alloc (.cells #[.int .i64 k, .int .i64 t, .int .i64 a1, .int .i64 b1, .string nm, .string ot] 29)), s.1.cell? ⟨b, off + j * 6 + 1, none⟩ = some (.int .i64 zt) := fun s => cell_step hZ1 s.2
 refine wp_region_lock (by kernel_rfl) (by kernel_rfl) ?_
 repeat (first | (refine WQ.skip rfl rfl rfl rfl ?_; simp only [Act.put, List.setIfInBounds_toArray, List.set_cons_zero, List.set_cons_succ, List.set_nil]) | ((first | (apply WQ.val; (exact rfl)) | (apply WQ.valg; (exact rfl); (exact rfl); (exact rfl))); (intro w9 hw9; obtain ⟨s9, rfl⟩ := hw9; simp [go_sem, u0, u1, z0, z1, hj1, hj2, hj3, hj0, hjw, h1]; first | done | exact rfl); simp only [Act.put, List.setIfInBounds_toArray, List.set_cons_zero, List.set_cons_succ, List.set_nil]))
 refine WQ.fin fun W4 hW4 => ?_
 go_wp2_with fail
 exact bodyPost_ret (v := .bool false) (by simp only [results, Tryz.results50]; go_simp) rfl ⟨rfl, bStep HB0.out hW4⟩
set_option maxHeartbeats 4000000 in
set_option maxRecDepth 20000 in
theorem RCan_B {a : Option Addr} {h : List Evt} {w : World} (c j : Nat) (name : ByteArray) (hh : EvAt a h w) (hl : h.length ≤ 10000) (hj : h.length = j + 1) (z : Evt) (hz : h[j]? = some z) (k t a1 b1 : Int) (nm ot : ByteArray) (h1 : (k == 1) = false) (h2 : t < z.2.1) : Calls Tryz.prog 50 #[.string name, .slice a h.length c, .agg #[.int .i64 k, .int .i64 t, .int .i64 a1, .int .i64 b1, .string nm, .string ot]] w fun en w' => en = .returned (.bool false) ∧ Below w.heap.size w w' := by
 obtain ⟨b, off, rfl, hb0, hcs⟩ := hh (by rintro rfl; simp at hj)
 have HX := Lib.hid (blk_new w (.cells #[.int .i64 k, .int .i64 t, .int .i64 a1, .int .i64 b1, .string nm, .string ot] 29))
 have HB0 := Lib.hid (bAl (W := w) (o := (.cells #[.int .i64 k, .int .i64 t, .int .i64 a1, .int .i64 b1, .string nm, .string ot] 29)))
 have hZ0 : (w.alloc (.cells #[.int .i64 k, .int .i64 t, .int .i64 a1, .int .i64 b1, .string nm, .string ot] 29)).cell? ⟨b, off + j * 6, none⟩ = some (.int .i64 z.1) := cell_step (hcs j z hz 0 _ rfl) HB0.out
 have hZ1 : (w.alloc (.cells #[.int .i64 k, .int .i64 t, .int .i64 a1, .int .i64 b1, .string nm, .string ot] 29)).cell? ⟨b, off + j * 6 + 1, none⟩ = some (.int .i64 z.2.1) := cell_step (hcs j z hz 1 _ rfl) HB0.out
 have hj1 : (h.length : Int) - 1 = (j : Int) := by omega
 have hj2 : (j : Int) < h.length := by omega
 have hj3 : j < h.length := by omega
 have hj4 : ¬ h.length = 0 := by omega
 have hj0 : (0 : Int) ≤ j := by omega
 have hjw : IntKind.i64.wrap (j : Int) = (j : Int) := Go.IntWalk.i64_in _ ⟨by omega, by omega⟩
 have HLN := Lib.hid (And.intro hl hj)
 obtain ⟨zk, zt, z3, z4, z5, z6⟩ := z
 dsimp only at hZ0 hZ1 h2
 have hne : ((h.length : Int) == 0) = false := by simpa using hj4
 clear hcs hh hl hj hz 
 go_enter Tryz.func50, Tryz.ntmps50
 go_upto_region 3 with fail
 have u0 : ∀ s : WStep (w.alloc (.cells #[.int .i64 k, .int .i64 t, .int .i64 a1, .int .i64 b1, .string nm, .string ot] 29)), s.1.cell? ⟨w.heap.size, 0, none⟩ = some (.int .i64 k) := fun s => cell_step (blk_cell HX.out rfl) s.2
 have u1 : ∀ s : WStep (w.alloc (.cells #[.int .i64 k, .int .i64 t, .int .i64 a1, .int .i64 b1, .string nm, .string ot] 29)), s.1.cell? ⟨w.heap.size, 1, none⟩ = some (.int .i64 t) := fun s => cell_step (blk_cell HX.out rfl) s.2
 have z0 : ∀ s : WStep (w.alloc (.cells #[.int .i64 k, .int .i64 t, .int .i64 a1, .int .i64 b1, .string nm, .string ot] 29)), s.1.cell? ⟨b, off + j * 6, none⟩ = some (.int .i64 zk) := fun s => cell_step hZ0 s.2
 have z1 : ∀ s : WStep (w.alloc (.cells #[.int .i64 k, .int .i64 t, .int .i64 a1, .int .i64 b1, .string nm, .string ot] 29)), s.1.cell? ⟨b, off + j * 6 + 1, none⟩ = some (.int .i64 zt) := fun s => cell_step hZ1 s.2
 refine wp_region_lock (by kernel_rfl) (by kernel_rfl) ?_
 repeat (first | (refine WQ.skip rfl rfl rfl rfl ?_; simp only [Act.put, List.setIfInBounds_toArray, List.set_cons_zero, List.set_cons_succ, List.set_nil]) | ((first | (apply WQ.val; (exact rfl)) | (apply WQ.valg; (exact rfl); (exact rfl); (exact rfl))); (intro w9 hw9; obtain ⟨s9, rfl⟩ := hw9; simp [go_sem, u0, u1, z0, z1, hj1, hj2, hj3, hj0, hjw, h1, h2]; first | done | exact rfl); simp only [Act.put, List.setIfInBounds_toArray, List.set_cons_zero, List.set_cons_succ, List.set_nil]))
 refine WQ.fin fun W4 hW4 => ?_
 go_wp2_with fail
 exact bodyPost_ret (v := .bool false) (by simp only [results, Tryz.results50]; go_simp) rfl ⟨rfl, bStep HB0.out hW4⟩
set_option maxHeartbeats 4000000 in
set_option maxRecDepth 20000 in
theorem RCan_C {a : Option Addr} {h : List Evt} {w : World} (c j : Nat) (name : ByteArray) (hh : EvAt a h w) (hl : h.length ≤ 10000) (hj : h.length = j + 1) (z : Evt) (hz : h[j]? = some z) (k t a1 b1 : Int) (nm ot : ByteArray) (h1 : (k == 1) = false) (h2 : ¬ t < z.2.1) (h3 : (z.1 == 9) = true) : Calls Tryz.prog 50 #[.string name, .slice a h.length c, .agg #[.int .i64 k, .int .i64 t, .int .i64 a1, .int .i64 b1, .string nm, .string ot]] w fun en w' => en = .returned (.bool false) ∧ Below w.heap.size w w' := by
 obtain ⟨b, off, rfl, hb0, hcs⟩ := hh (by rintro rfl; simp at hj)
 have HX := Lib.hid (blk_new w (.cells #[.int .i64 k, .int .i64 t, .int .i64 a1, .int .i64 b1, .string nm, .string ot] 29))
 have HB0 := Lib.hid (bAl (W := w) (o := (.cells #[.int .i64 k, .int .i64 t, .int .i64 a1, .int .i64 b1, .string nm, .string ot] 29)))
 have hZ0 : (w.alloc (.cells #[.int .i64 k, .int .i64 t, .int .i64 a1, .int .i64 b1, .string nm, .string ot] 29)).cell? ⟨b, off + j * 6, none⟩ = some (.int .i64 z.1) := cell_step (hcs j z hz 0 _ rfl) HB0.out
 have hZ1 : (w.alloc (.cells #[.int .i64 k, .int .i64 t, .int .i64 a1, .int .i64 b1, .string nm, .string ot] 29)).cell? ⟨b, off + j * 6 + 1, none⟩ = some (.int .i64 z.2.1) := cell_step (hcs j z hz 1 _ rfl) HB0.out
 have hj1 : (h.length : Int) - 1 = (j : Int) := by omega
 have hj2 : (j : Int) < h.length := by omega
 have hj3 : j < h.length := by omega
 have hj4 : ¬ h.length = 0 := by omega
 have hj0 : (0 : Int) ≤ j := by omega
 have hjw : IntKind.i64.wrap (j : Int) = (j : Int) := Go.IntWalk.i64_in _ ⟨by omega, by omega⟩
 have HLN := Lib.hid (And.intro hl hj)
 obtain ⟨zk, zt, z3, z4, z5, z6⟩ := z
 dsimp only at hZ0 hZ1 h2 h3
 have hne : ((h.length : Int) == 0) = false := by simpa using hj4
 clear hcs hh hl hj hz 
 go_enter Tryz.func50, Tryz.ntmps50
 go_upto_region 3 with fail
 have u0 : ∀ s : WStep (w.alloc (.cells #[.int .i64 k, .int .i64 t, .int .i64 a1, .int .i64 b1, .string nm, .string ot] 29)), s.1.cell? ⟨w.heap.size, 0, none⟩ = some (.int .i64 k) := fun s => cell_step (blk_cell HX.out rfl) s.2
 have u1 : ∀ s : WStep (w.alloc (.cells #[.int .i64 k, .int .i64 t, .int .i64 a1, .int .i64 b1, .string nm, .string ot] 29)), s.1.cell? ⟨w.heap.size, 1, none⟩ = some (.int .i64 t) := fun s => cell_step (blk_cell HX.out rfl) s.2
 have z0 : ∀ s : WStep (w.alloc (.cells #[.int .i64 k, .int .i64 t, .int .i64 a1, .int .i64 b1, .string nm, .string ot] 29)), s.1.cell? ⟨b, off + j * 6, none⟩ = some (.int .i64 zk) := fun s => cell_step hZ0 s.2
 have z1 : ∀ s : WStep (w.alloc (.cells #[.int .i64 k, .int .i64 t, .int .i64 a1, .int .i64 b1, .string nm, .string ot] 29)), s.1.cell? ⟨b, off + j * 6 + 1, none⟩ = some (.int .i64 zt) := fun s => cell_step hZ1 s.2
 refine wp_region_lock (by kernel_rfl) (by kernel_rfl) ?_
 repeat (first | (refine WQ.skip rfl rfl rfl rfl ?_; simp only [Act.put, List.setIfInBounds_toArray, List.set_cons_zero, List.set_cons_succ, List.set_nil]) | ((first | (apply WQ.val; (exact rfl)) | (apply WQ.valg; (exact rfl); (exact rfl); (exact rfl))); (intro w9 hw9; obtain ⟨s9, rfl⟩ := hw9; simp [go_sem, u0, u1, z0, z1, hj1, hj2, hj3, hj0, hjw, h1, h2, h3]; first | done | exact rfl); simp only [Act.put, List.setIfInBounds_toArray, List.set_cons_zero, List.set_cons_succ, List.set_nil]))
 refine WQ.fin fun W4 hW4 => ?_
 go_wp2_with fail
 exact bodyPost_ret (v := .bool false) (by simp only [results, Tryz.results50]; go_simp) rfl ⟨rfl, bStep HB0.out hW4⟩
set_option maxHeartbeats 4000000 in
set_option maxRecDepth 20000 in
theorem RCan_D {a : Option Addr} {h : List Evt} {w : World} (c j : Nat) (name : ByteArray) (hh : EvAt a h w) (hl : h.length ≤ 10000) (hj : h.length = j + 1) (z : Evt) (hz : h[j]? = some z) (k t a1 b1 : Int) (nm ot : ByteArray) (hf : Few h) (hnm : name.size ≤ 1000) (h1 : (k == 1) = false) (h2 : ¬ t < z.2.1) (h3 : (z.1 == 9) = false) : Calls Tryz.prog 50 #[.string name, .slice a h.length c, .agg #[.int .i64 k, .int .i64 t, .int .i64 a1, .int .i64 b1, .string nm, .string ot]] w fun en w' => en = .returned (.bool (ruleB name (modsOf name h) (opnsOf h) (k, t, a1, b1, nm, ot))) ∧ Below w.heap.size w w' := by
 have HH := Lib.hid hh
 have HF := Lib.hid (And.intro hf hnm)
 have HML := Lib.hid (mods_len name h hf)
 have HOL := Lib.hid (opns_len h)
 obtain ⟨b, off, rfl, hb0, hcs⟩ := hh (by rintro rfl; simp at hj)
 have HX := Lib.hid (blk_new w (.cells #[.int .i64 k, .int .i64 t, .int .i64 a1, .int .i64 b1, .string nm, .string ot] 29))
 have HB0 := Lib.hid (bAl (W := w) (o := (.cells #[.int .i64 k, .int .i64 t, .int .i64 a1, .int .i64 b1, .string nm, .string ot] 29)))
 have hZ0 : (w.alloc (.cells #[.int .i64 k, .int .i64 t, .int .i64 a1, .int .i64 b1, .string nm, .string ot] 29)).cell? ⟨b, off + j * 6, none⟩ = some (.int .i64 z.1) := cell_step (hcs j z hz 0 _ rfl) HB0.out
 have hZ1 : (w.alloc (.cells #[.int .i64 k, .int .i64 t, .int .i64 a1, .int .i64 b1, .string nm, .string ot] 29)).cell? ⟨b, off + j * 6 + 1, none⟩ = some (.int .i64 z.2.1) := cell_step (hcs j z hz 1 _ rfl) HB0.out
 have hj1 : (h.length : Int) - 1 = (j : Int) := by omega
 have hj2 : (j : Int) < h.length := by omega
 have hj3 : j < h.length := by omega
 have hj4 : ¬ h.length = 0 := by omega
 have hj0 : (0 : Int) ≤ j := by omega
 have hjw : IntKind.i64.wrap (j : Int) = (j : Int) := Go.IntWalk.i64_in _ ⟨by omega, by omega⟩
 have HLN := Lib.hid (And.intro hl hj)
 obtain ⟨zk, zt, z3, z4, z5, z6⟩ := z
 dsimp only at hZ0 hZ1 h2 h3
 have hne : ((h.length : Int) == 0) = false := by simpa using hj4
 clear hcs hh hl hj hz hf hnm 
 go_enter Tryz.func50, Tryz.ntmps50
 go_upto_region 3 with fail
 have u0 : ∀ s : WStep (w.alloc (.cells #[.int .i64 k, .int .i64 t, .int .i64 a1, .int .i64 b1, .string nm, .string ot] 29)), s.1.cell? ⟨w.heap.size, 0, none⟩ = some (.int .i64 k) := fun s => cell_step (blk_cell HX.out rfl) s.2
 have u1 : ∀ s : WStep (w.alloc (.cells #[.int .i64 k, .int .i64 t, .int .i64 a1, .int .i64 b1, .string nm, .string ot] 29)), s.1.cell? ⟨w.heap.size, 1, none⟩ = some (.int .i64 t) := fun s => cell_step (blk_cell HX.out rfl) s.2
 have z0 : ∀ s : WStep (w.alloc (.cells #[.int .i64 k, .int .i64 t, .int .i64 a1, .int .i64 b1, .string nm, .string ot] 29)), s.1.cell? ⟨b, off + j * 6, none⟩ = some (.int .i64 zk) := fun s => cell_step hZ0 s.2
 have z1 : ∀ s : WStep (w.alloc (.cells #[.int .i64 k, .int .i64 t, .int .i64 a1, .int .i64 b1, .string nm, .string ot] 29)), s.1.cell? ⟨b, off + j * 6 + 1, none⟩ = some (.int .i64 zt) := fun s => cell_step hZ1 s.2
 refine wp_region_lock (by kernel_rfl) (by kernel_rfl) ?_
 repeat (first | (refine WQ.skip rfl rfl rfl rfl ?_; simp only [Act.put, List.setIfInBounds_toArray, List.set_cons_zero, List.set_cons_succ, List.set_nil]) | ((first | (apply WQ.val; (exact rfl)) | (apply WQ.valg; (exact rfl); (exact rfl); (exact rfl))); (intro w9 hw9; obtain ⟨s9, rfl⟩ := hw9; simp [go_sem, u0, u1, z0, z1, hj1, hj2, hj3, hj0, hjw, h1, h2, h3]; first | done | exact rfl); simp only [Act.put, List.setIfInBounds_toArray, List.set_cons_zero, List.set_cons_succ, List.set_nil]))
 refine WQ.fin fun W4 hW4 => ?_
 have HX4 := Lib.hid (blk_step HX.out hW4)
 have HB4 := Lib.hid (bStep HB0.out hW4)
 replace HH := Lib.hid (HH.out.step HB4.out)
 clear u0 u1 z0 z1 hZ0 hZ1 hj1 hj2 hj3 hj0 hjw hne hW4 HX HB0 h2 h3
 go_upto_region 6 with (go_at_call 110; refine (RModules_any c name HH.out HLN.out.1 HF.out.1 HF.out.2).mono ?_; rintro e w5 ⟨v5, rfl, ho5⟩; obtain ⟨am, cm, rfl, -⟩ := ho5.cells; have HO5 := Lib.hid ho5; clear ho5)
 have HX5 := Lib.hid (blk_step HX4.out HO5.out.bel)
 have HB5 := Lib.hid (bStep HB4.out HO5.out.bel)
 have HE5 := Lib.hid (HH.out.step HO5.out.bel)
 have HSR := Lib.hid HO5.out.srow
 clear HX4 HB4 HH HO5 HF
 have HML2 : Hid ((modsOf name h).length ≤ 1000000 ∧ (opnsOf h).length ≤ 1000000) := ⟨by have := HML.out; have := HLN.out.1; omega, by have := HOL.out; have := HLN.out.1; omega⟩
 have e0 : w5.cell? ⟨w.heap.size, 0, none⟩ = some (.int .i64 k) := blk_cell HX5.out rfl
 have e4 : w5.cell? ⟨w.heap.size, 4, none⟩ = some (.string nm) := blk_cell HX5.out rfl
 have e5 : w5.cell? ⟨w.heap.size, 5, none⟩ = some (.string ot) := blk_cell HX5.out rfl
 have el := blk_lt HX5.out
 have CH := Lib.hid (RHas_any HSR.out HML2.out.1 nm)
 have HR5 := Lib.hid (ruleB_5 name (modsOf name h) (opnsOf h) t a1 b1 nm ot)
 have HR6 := Lib.hid (ruleB_6 name (modsOf name h) (opnsOf h) t a1 b1 nm ot)
 have HR7 := Lib.hid (ruleB_7 name (modsOf name h) (opnsOf h) t a1 b1 nm ot)
 have HR8 := Lib.hid (ruleB_8 name (modsOf name h) (opnsOf h) t a1 b1 nm ot)
 have HR9 := Lib.hid (ruleB_9 name (modsOf name h) (opnsOf h) t a1 b1 nm ot)
 unfold eqT at HR5 HR6
 by_cases k5 : k = 5
 ·subst k5
  clear h1
  cases hq : hasT (modsOf name h) nm
  ·rw [hq] at CH HR5
   clear hq
   by_cases hc : (modsOf name h).length < 32
   ·have hci : ((modsOf name h).length : Int) < 32 := by omega
    rw [decide_eq_true hc] at HR5
    clear hc
    go_wp2_with (go_at_call 111; refine CH.out.mono ?_; rintro e w6 ⟨rfl, hb6⟩; have f5 := cell_step e5 hb6; have fl := Nat.lt_of_lt_of_le el hb6.size; have HB6 := Lib.hid (bStep HB5.out hb6); clear e0 e4 e5 el hb6)
    exact bodyPost_ret (v := .bool (!(ot.toList == name.toList))) (by simp only [results, Tryz.results50]; go_simp) rfl ⟨by rw [HR5.out]; rfl, HB6.out⟩
   ·have hci : ¬ ((modsOf name h).length : Int) < 32 := by omega
    rw [decide_eq_false hc] at HR5
    clear hc
    go_wp2_with (go_at_call 111; refine CH.out.mono ?_; rintro e w6 ⟨rfl, hb6⟩; have f5 := cell_step e5 hb6; have fl := Nat.lt_of_lt_of_le el hb6.size; have HB6 := Lib.hid (bStep HB5.out hb6); clear e0 e4 e5 el hb6)
    exact bodyPost_ret (v := .bool false) (by simp only [results, Tryz.results50]; go_simp) rfl ⟨by rw [HR5.out]; rfl, HB6.out⟩
  ·rw [hq] at CH HR5
   clear hq
   go_wp2_with (go_at_call 111; refine CH.out.mono ?_; rintro e w6 ⟨rfl, hb6⟩; have f5 := cell_step e5 hb6; have fl := Nat.lt_of_lt_of_le el hb6.size; have HB6 := Lib.hid (bStep HB5.out hb6); clear e0 e4 e5 el hb6)
   exact bodyPost_ret (v := .bool false) (by simp only [results, Tryz.results50]; go_simp) rfl ⟨by rw [HR5.out]; rfl, HB6.out⟩
 ·have k5b : (k == 5) = false := by simpa using k5
  by_cases k6 : k = 6
  ·subst k6
   clear h1 k5 k5b
   cases hq : hasT (modsOf name h) nm
   ·rw [hq] at CH HR6
    clear hq
    go_wp2_with (go_at_call 111; refine CH.out.mono ?_; rintro e w6 ⟨rfl, hb6⟩; have f5 := cell_step e5 hb6; have fl := Nat.lt_of_lt_of_le el hb6.size; have HB6 := Lib.hid (bStep HB5.out hb6); clear e0 e4 e5 el hb6)
    exact bodyPost_ret (v := .bool false) (by simp only [results, Tryz.results50]; go_simp) rfl ⟨by rw [HR6.out]; rfl, HB6.out⟩
   ·rw [hq] at CH HR6
    clear hq
    go_wp2_with (go_at_call 111; refine CH.out.mono ?_; rintro e w6 ⟨rfl, hb6⟩; have f5 := cell_step e5 hb6; have fl := Nat.lt_of_lt_of_le el hb6.size; have HB6 := Lib.hid (bStep HB5.out hb6); clear e0 e4 e5 el hb6)
    exact bodyPost_ret (v := .bool (!(ot.toList == name.toList))) (by simp only [results, Tryz.results50]; go_simp) rfl ⟨by rw [HR6.out]; rfl, HB6.out⟩
  ·have k6b : (k == 6) = false := by simpa using k6
   have CO : Hid (∀ W, Below w5.heap.size w5 W → Calls Tryz.prog 112 #[.slice (some ⟨b, off, none⟩) h.length c] W fun en w' => ∃ v, en = .returned v ∧ OS W (opnsOf h) v w') := fun W hW => ROpen_any c (HE5.out.step hW) (by have := HLN.out.1; omega)
   have HM0 := Lib.hid HML2.out.2
   by_cases k7 : k = 7
   ·subst k7
    clear h1 k5 k5b k6 k6b
    go_upto_region 12 with fail
    clear e0 e4 e5 el CH
    obtain ⟨L, hL⟩ : ∃ L, opnsOf h = L := ⟨_, rfl⟩
    rw [hL] at CO HM0
    have HLQ := Lib.hid hL
    clear hL
    generalize h.length = nl at *
    refine region_all 7 50 94 [(1, 77), (4, 80), (5, 81), (6, 6)] [(none, []), (some 0, []), (none, []), (none, []), (some 1, [0]), (some 2, [1]), (some 3, [2])] [(76, (.slice (some ⟨b, off, none⟩) nl c)), (78, (.pointer (some ⟨w.heap.size, 4, none⟩))), (79, (.string nm))] (fun bsE vsE W => CnS w5 L (hasT L nm) (!(hasT L nm)) (bsE.getD 0 false) (bsE.getD 1 false) (bsE.getD 2 false) (bsE.getD 3 false) ((vsE.getD 0 undef)) ((vsE.getD 1 undef)) ((vsE.getD 2 undef)) ((vsE.getD 3 undef)) W) (by kernel_rfl) (by kernel_rfl) rfl rfl (by kernel_rfl) (by rfl) ?h0 ?each ?done
    case h0 =>
     intro vsE hlv
     obtain ⟨v0, vsE0, rfl, hlv0⟩ := len_one hlv
     obtain ⟨v1, vsE1, rfl, hlv1⟩ := len_one hlv0
     obtain ⟨v2, vsE2, rfl, hlv2⟩ := len_one hlv1
     obtain ⟨v3, vsE3, rfl, hlv3⟩ := len_one hlv2
     obtain rfl := len_nil hlv3
     exact ⟨(Below.refl _ _).drew, (fun e => by cases e), (fun e => by cases e), (fun e => by cases e), (fun e => by cases e)⟩
    case each =>
     simp only [AllE]
     refine ⟨⟨76, (.slice (some ⟨b, off, none⟩) nl c), rfl, by kernel_rfl, ?_⟩, Or.inl ⟨77, rfl, ?q1_1⟩, ⟨78, (.pointer (some ⟨w.heap.size, 4, none⟩)), rfl, by kernel_rfl, ?_⟩, ⟨79, (.string nm), rfl, by kernel_rfl, ?_⟩, Or.inl ⟨80, rfl, ?q1_4⟩, Or.inl ⟨81, rfl, ?q1_5⟩, Or.inl ⟨6, rfl, ?q1_6⟩, trivial⟩
     case q1_1 =>
      intro bsE vsE W hlb hlv hnd hbk h
      obtain ⟨b0, bsE0, rfl, hlb0⟩ := len_one hlb
      obtain ⟨v0, vsE0, rfl, hlv0⟩ := len_one hlv
      obtain ⟨b1, bsE1, rfl, hlb1⟩ := len_one hlb0
      obtain ⟨v1, vsE1, rfl, hlv1⟩ := len_one hlv0
      obtain ⟨b2, bsE2, rfl, hlb2⟩ := len_one hlb1
      obtain ⟨v2, vsE2, rfl, hlv2⟩ := len_one hlv1
      obtain ⟨b3, bsE3, rfl, hlb3⟩ := len_one hlb2
      obtain ⟨v3, vsE3, rfl, hlv3⟩ := len_one hlv2
      obtain rfl := len_nil hlb3
      obtain rfl := len_nil hlv3
      obtain rfl : b0 = false := hbk
      replace h : CnS w5 L (hasT L nm) (!(hasT L nm)) false b1 b2 b3 (v0) (v1) (v2) (v3) W := h
      clear hnd
      have HST := Lib.hid h
      skip
      intro K Q hK
      simp only [putE, updAll, Act.put, List.setIfInBounds_toArray, List.set_cons_zero, List.set_cons_succ, List.set_nil] at hK ⊢
      go_wp2_with (go_at_call 112; refine (CO.out _ h.bel).mono ?_; rintro e w1 ⟨vq, rfl, ho1⟩)
      all_goals (have hm := (⟨bStep h.bel ho1.bel, fun _ => ho1.srow, h.e1, h.e2, h.e3⟩ : CnS w5 L (hasT L nm) (!(hasT L nm)) true b1 b2 b3 (vq) (v1) (v2) (v3) w1))
      all_goals (first | exact hK _ _ hm | exact hm)
     case q1_4 =>
      intro bsE vsE W hlb hlv hnd hbk h
      obtain ⟨b0, bsE0, rfl, hlb0⟩ := len_one hlb
      obtain ⟨v0, vsE0, rfl, hlv0⟩ := len_one hlv
      obtain ⟨b1, bsE1, rfl, hlb1⟩ := len_one hlb0
      obtain ⟨v1, vsE1, rfl, hlv1⟩ := len_one hlv0
      obtain ⟨b2, bsE2, rfl, hlb2⟩ := len_one hlb1
      obtain ⟨v2, vsE2, rfl, hlv2⟩ := len_one hlv1
      obtain ⟨b3, bsE3, rfl, hlb3⟩ := len_one hlb2
      obtain ⟨v3, vsE3, rfl, hlv3⟩ := len_one hlv2
      obtain rfl := len_nil hlb3
      obtain rfl := len_nil hlv3
      obtain rfl : b0 = true := hnd 0 (by simp)
      obtain rfl : b1 = false := hbk
      replace h : CnS w5 L (hasT L nm) (!(hasT L nm)) true false b2 b3 (v0) (v1) (v2) (v3) W := h
      clear hnd
      have HST := Lib.hid h
      skip
      intro K Q hK
      simp only [putE, updAll, Act.put, List.setIfInBounds_toArray, List.set_cons_zero, List.set_cons_succ, List.set_nil] at hK ⊢
      go_wp2_with (go_at_call 111; refine (RHas_any (h.o0 rfl) HM0.out nm).mono ?_; rintro e w1 ⟨rfl, hb1⟩)
      all_goals (have hm := (⟨bStep h.bel hb1, fun e => (h.o0 e).step hb1, fun _ => rfl, h.e2, h.e3⟩ : CnS w5 L (hasT L nm) (!(hasT L nm)) true true b2 b3 (v0) (.bool (hasT L nm)) (v2) (v3) w1))
      all_goals (first | exact hK _ _ hm | exact hm)
     case q1_5 =>
      intro bsE vsE W hlb hlv hnd hbk h
      obtain ⟨b0, bsE0, rfl, hlb0⟩ := len_one hlb
      obtain ⟨v0, vsE0, rfl, hlv0⟩ := len_one hlv
      obtain ⟨b1, bsE1, rfl, hlb1⟩ := len_one hlb0
      obtain ⟨v1, vsE1, rfl, hlv1⟩ := len_one hlv0
      obtain ⟨b2, bsE2, rfl, hlb2⟩ := len_one hlb1
      obtain ⟨v2, vsE2, rfl, hlv2⟩ := len_one hlv1
      obtain ⟨b3, bsE3, rfl, hlb3⟩ := len_one hlb2
      obtain ⟨v3, vsE3, rfl, hlv3⟩ := len_one hlv2
      obtain rfl := len_nil hlb3
      obtain rfl := len_nil hlv3
      obtain rfl : b1 = true := hnd 1 (by simp)
      obtain rfl : b2 = false := hbk
      replace h : CnS w5 L (hasT L nm) (!(hasT L nm)) b0 true false b3 (v0) (v1) (v2) (v3) W := h
      clear hnd
      have HST := Lib.hid h
      obtain rfl := h.e1 rfl
      intro K Q hK
      simp only [putE, updAll, Act.put, List.setIfInBounds_toArray, List.set_cons_zero, List.set_cons_succ, List.set_nil] at hK ⊢
      go_wp2_with fail
      all_goals (have hm := (⟨h.bel, h.o0, h.e1, fun _ => rfl, h.e3⟩ : CnS w5 L (hasT L nm) (!(hasT L nm)) b0 true true b3 (v0) (.bool (hasT L nm)) (.bool (!(hasT L nm))) (v3) W))
      all_goals (first | exact hK _ _ hm | exact hm)
     case q1_6 =>
      intro bsE vsE W hlb hlv hnd hbk h
      obtain ⟨b0, bsE0, rfl, hlb0⟩ := len_one hlb
      obtain ⟨v0, vsE0, rfl, hlv0⟩ := len_one hlv
      obtain ⟨b1, bsE1, rfl, hlb1⟩ := len_one hlb0
      obtain ⟨v1, vsE1, rfl, hlv1⟩ := len_one hlv0
      obtain ⟨b2, bsE2, rfl, hlb2⟩ := len_one hlb1
      obtain ⟨v2, vsE2, rfl, hlv2⟩ := len_one hlv1
      obtain ⟨b3, bsE3, rfl, hlb3⟩ := len_one hlb2
      obtain ⟨v3, vsE3, rfl, hlv3⟩ := len_one hlv2
      obtain rfl := len_nil hlb3
      obtain rfl := len_nil hlv3
      obtain rfl : b2 = true := hnd 2 (by simp)
      obtain rfl : b3 = false := hbk
      replace h : CnS w5 L (hasT L nm) (!(hasT L nm)) b0 b1 true false (v0) (v1) (v2) (v3) W := h
      clear hnd
      have HST := Lib.hid h
      obtain rfl := h.e2 rfl
      intro K Q hK
      simp only [putE, updAll, Act.put, List.setIfInBounds_toArray, List.set_cons_zero, List.set_cons_succ, List.set_nil] at hK ⊢
      go_wp2_with fail
      all_goals (have hm := (⟨h.bel, h.o0, h.e1, fun _ => rfl, fun _ => rfl⟩ : CnS w5 L (hasT L nm) (!(hasT L nm)) b0 b1 true true (v0) (v1) (.bool (!(hasT L nm))) (.bool (!(hasT L nm))) W))
      all_goals (first | exact hK _ _ hm | exact hm)
     all_goals
      intro bsE vsE W hlb hlv hnd h
      obtain ⟨b0, bsE0, rfl, hlb0⟩ := len_one hlb
      obtain ⟨v0, vsE0, rfl, hlv0⟩ := len_one hlv
      obtain ⟨b1, bsE1, rfl, hlb1⟩ := len_one hlb0
      obtain ⟨v1, vsE1, rfl, hlv1⟩ := len_one hlv0
      obtain ⟨b2, bsE2, rfl, hlb2⟩ := len_one hlb1
      obtain ⟨v2, vsE2, rfl, hlv2⟩ := len_one hlv1
      obtain ⟨b3, bsE3, rfl, hlb3⟩ := len_one hlb2
      obtain ⟨v3, vsE3, rfl, hlv3⟩ := len_one hlv2
      obtain rfl := len_nil hlb3
      obtain rfl := len_nil hlv3
      replace h : CnS w5 L (hasT L nm) (!(hasT L nm)) b0 b1 b2 b3 (v0) (v1) (v2) (v3) W := h
      clear hnd
      have HST := Lib.hid h
      have g4 : W.cell? ⟨w.heap.size, 4, none⟩ = some (.string nm) := blk_cell (blk_step HX5.out h.bel) rfl; have gl := Nat.lt_of_lt_of_le (blk_lt HX5.out) h.bel.size
      intro K Q hK
      simp only [putE, updAll, Act.put, List.setIfInBounds_toArray, List.set_cons_zero, List.set_cons_succ, List.set_nil] at hK ⊢
      go_wp2_with (fail)
      all_goals (first | exact hK _ h | exact h)
    case done =>
     intro vsE W hlv h
     obtain ⟨v0, vsE0, rfl, hlv0⟩ := len_one hlv
     obtain ⟨v1, vsE1, rfl, hlv1⟩ := len_one hlv0
     obtain ⟨v2, vsE2, rfl, hlv2⟩ := len_one hlv1
     obtain ⟨v3, vsE3, rfl, hlv3⟩ := len_one hlv2
     obtain rfl := len_nil hlv3
     replace h : CnS w5 L (hasT L nm) (!(hasT L nm)) true true true true (v0) (v1) (v2) (v3) W := h
     have HST := Lib.hid h
     obtain rfl := h.e3 rfl
     have HBF := Lib.hid h.bel
     clear h HST
     simp only [putE, updAll, Act.put, List.setIfInBounds_toArray, List.set_cons_zero, List.set_cons_succ, List.set_nil]
     go_wp2_with fail
     exact bodyPost_ret (v := .bool (!(hasT L nm))) (by simp only [results, Tryz.results50]; go_simp) rfl ⟨by rw [HR7.out, HLQ.out], bStep HB5.out HBF.out⟩
   ·have k7b : (k == 7) = false := by simpa using k7
    by_cases k8 : k = 8
    ·subst k8
     clear h1 k5 k5b k6 k6b k7 k7b
     go_upto_region 14 with fail
     clear e0 e4 e5 el CH
     obtain ⟨L, hL⟩ : ∃ L, opnsOf h = L := ⟨_, rfl⟩
     rw [hL] at CO HM0
     have HLQ := Lib.hid hL
     clear hL
     generalize h.length = nl at *
     refine region_all 6 50 94 [(1, 85), (4, 88), (5, 6)] [(none, []), (some 0, []), (none, []), (none, []), (some 1, [0]), (some 2, [1])] [(84, (.slice (some ⟨b, off, none⟩) nl c)), (86, (.pointer (some ⟨w.heap.size, 4, none⟩))), (87, (.string nm))] (fun bsE vsE W => CnS w5 L (hasT L nm) (hasT L nm) (bsE.getD 0 false) (bsE.getD 1 false) (bsE.getD 2 false) false ((vsE.getD 0 undef)) ((vsE.getD 1 undef)) ((vsE.getD 2 undef)) (undef) W) (by kernel_rfl) (by kernel_rfl) rfl rfl (by kernel_rfl) (by rfl) ?h0 ?each ?done
     case h0 =>
      intro vsE hlv
      obtain ⟨v0, vsE0, rfl, hlv0⟩ := len_one hlv
      obtain ⟨v1, vsE1, rfl, hlv1⟩ := len_one hlv0
      obtain ⟨v2, vsE2, rfl, hlv2⟩ := len_one hlv1
      obtain rfl := len_nil hlv2
      exact ⟨(Below.refl _ _).drew, (fun e => by cases e), (fun e => by cases e), (fun e => by cases e), (fun e => by cases e)⟩
     case each =>
      simp only [AllE]
      refine ⟨⟨84, (.slice (some ⟨b, off, none⟩) nl c), rfl, by kernel_rfl, ?_⟩, Or.inl ⟨85, rfl, ?q2_1⟩, ⟨86, (.pointer (some ⟨w.heap.size, 4, none⟩)), rfl, by kernel_rfl, ?_⟩, ⟨87, (.string nm), rfl, by kernel_rfl, ?_⟩, Or.inl ⟨88, rfl, ?q2_4⟩, Or.inl ⟨6, rfl, ?q2_5⟩, trivial⟩
      case q2_1 =>
       intro bsE vsE W hlb hlv hnd hbk h
       obtain ⟨b0, bsE0, rfl, hlb0⟩ := len_one hlb
       obtain ⟨v0, vsE0, rfl, hlv0⟩ := len_one hlv
       obtain ⟨b1, bsE1, rfl, hlb1⟩ := len_one hlb0
       obtain ⟨v1, vsE1, rfl, hlv1⟩ := len_one hlv0
       obtain ⟨b2, bsE2, rfl, hlb2⟩ := len_one hlb1
       obtain ⟨v2, vsE2, rfl, hlv2⟩ := len_one hlv1
       obtain rfl := len_nil hlb2
       obtain rfl := len_nil hlv2
       obtain rfl : b0 = false := hbk
       replace h : CnS w5 L (hasT L nm) (hasT L nm) false b1 b2 false (v0) (v1) (v2) (undef) W := h
       clear hnd
       have HST := Lib.hid h
       skip
       intro K Q hK
       simp only [putE, updAll, Act.put, List.setIfInBounds_toArray, List.set_cons_zero, List.set_cons_succ, List.set_nil] at hK ⊢
       go_wp2_with (go_at_call 112; refine (CO.out _ h.bel).mono ?_; rintro e w1 ⟨vq, rfl, ho1⟩)
       all_goals (have hm := (⟨bStep h.bel ho1.bel, fun _ => ho1.srow, h.e1, h.e2, h.e3⟩ : CnS w5 L (hasT L nm) (hasT L nm) true b1 b2 false (vq) (v1) (v2) (undef) w1))
       all_goals (first | exact hK _ _ hm | exact hm)
      case q2_4 =>
       intro bsE vsE W hlb hlv hnd hbk h
       obtain ⟨b0, bsE0, rfl, hlb0⟩ := len_one hlb
       obtain ⟨v0, vsE0, rfl, hlv0⟩ := len_one hlv
       obtain ⟨b1, bsE1, rfl, hlb1⟩ := len_one hlb0
       obtain ⟨v1, vsE1, rfl, hlv1⟩ := len_one hlv0
       obtain ⟨b2, bsE2, rfl, hlb2⟩ := len_one hlb1
       obtain ⟨v2, vsE2, rfl, hlv2⟩ := len_one hlv1
       obtain rfl := len_nil hlb2
       obtain rfl := len_nil hlv2
       obtain rfl : b0 = true := hnd 0 (by simp)
       obtain rfl : b1 = false := hbk
       replace h : CnS w5 L (hasT L nm) (hasT L nm) true false b2 false (v0) (v1) (v2) (undef) W := h
       clear hnd
       have HST := Lib.hid h
       skip
       intro K Q hK
       simp only [putE, updAll, Act.put, List.setIfInBounds_toArray, List.set_cons_zero, List.set_cons_succ, List.set_nil] at hK ⊢
       go_wp2_with (go_at_call 111; refine (RHas_any (h.o0 rfl) HM0.out nm).mono ?_; rintro e w1 ⟨rfl, hb1⟩)
       all_goals (have hm := (⟨bStep h.bel hb1, fun e => (h.o0 e).step hb1, fun _ => rfl, h.e2, h.e3⟩ : CnS w5 L (hasT L nm) (hasT L nm) true true b2 false (v0) (.bool (hasT L nm)) (v2) (undef) w1))
       all_goals (first | exact hK _ _ hm | exact hm)
      case q2_5 =>
       intro bsE vsE W hlb hlv hnd hbk h
       obtain ⟨b0, bsE0, rfl, hlb0⟩ := len_one hlb
       obtain ⟨v0, vsE0, rfl, hlv0⟩ := len_one hlv
       obtain ⟨b1, bsE1, rfl, hlb1⟩ := len_one hlb0
       obtain ⟨v1, vsE1, rfl, hlv1⟩ := len_one hlv0
       obtain ⟨b2, bsE2, rfl, hlb2⟩ := len_one hlb1
       obtain ⟨v2, vsE2, rfl, hlv2⟩ := len_one hlv1
       obtain rfl := len_nil hlb2
       obtain rfl := len_nil hlv2
       obtain rfl : b1 = true := hnd 1 (by simp)
       obtain rfl : b2 = false := hbk
       replace h : CnS w5 L (hasT L nm) (hasT L nm) b0 true false false (v0) (v1) (v2) (undef) W := h
       clear hnd
       have HST := Lib.hid h
       obtain rfl := h.e1 rfl
       intro K Q hK
       simp only [putE, updAll, Act.put, List.setIfInBounds_toArray, List.set_cons_zero, List.set_cons_succ, List.set_nil] at hK ⊢
       go_wp2_with fail
       all_goals (have hm := (⟨h.bel, h.o0, h.e1, fun _ => rfl, h.e3⟩ : CnS w5 L (hasT L nm) (hasT L nm) b0 true true false (v0) (.bool (hasT L nm)) (.bool (hasT L nm)) (undef) W))
       all_goals (first | exact hK _ _ hm | exact hm)
      all_goals
       intro bsE vsE W hlb hlv hnd h
       obtain ⟨b0, bsE0, rfl, hlb0⟩ := len_one hlb
       obtain ⟨v0, vsE0, rfl, hlv0⟩ := len_one hlv
       obtain ⟨b1, bsE1, rfl, hlb1⟩ := len_one hlb0
       obtain ⟨v1, vsE1, rfl, hlv1⟩ := len_one hlv0
       obtain ⟨b2, bsE2, rfl, hlb2⟩ := len_one hlb1
       obtain ⟨v2, vsE2, rfl, hlv2⟩ := len_one hlv1
       obtain rfl := len_nil hlb2
       obtain rfl := len_nil hlv2
       replace h : CnS w5 L (hasT L nm) (hasT L nm) b0 b1 b2 false (v0) (v1) (v2) (undef) W := h
       clear hnd
       have HST := Lib.hid h
       have g4 : W.cell? ⟨w.heap.size, 4, none⟩ = some (.string nm) := blk_cell (blk_step HX5.out h.bel) rfl; have gl := Nat.lt_of_lt_of_le (blk_lt HX5.out) h.bel.size
       intro K Q hK
       simp only [putE, updAll, Act.put, List.setIfInBounds_toArray, List.set_cons_zero, List.set_cons_succ, List.set_nil] at hK ⊢
       go_wp2_with (fail)
       all_goals (first | exact hK _ h | exact h)
     case done =>
      intro vsE W hlv h
      obtain ⟨v0, vsE0, rfl, hlv0⟩ := len_one hlv
      obtain ⟨v1, vsE1, rfl, hlv1⟩ := len_one hlv0
      obtain ⟨v2, vsE2, rfl, hlv2⟩ := len_one hlv1
      obtain rfl := len_nil hlv2
      replace h : CnS w5 L (hasT L nm) (hasT L nm) true true true false (v0) (v1) (v2) (undef) W := h
      have HST := Lib.hid h
      obtain rfl := h.e2 rfl
      have HBF := Lib.hid h.bel
      clear h HST
      simp only [putE, updAll, Act.put, List.setIfInBounds_toArray, List.set_cons_zero, List.set_cons_succ, List.set_nil]
      go_wp2_with fail
      exact bodyPost_ret (v := .bool (hasT L nm)) (by simp only [results, Tryz.results50]; go_simp) rfl ⟨by rw [HR8.out, HLQ.out], bStep HB5.out HBF.out⟩
    ·have k8b : (k == 8) = false := by simpa using k8
     clear CO CH
     by_cases k9 : k = 9
     ·subst k9
      clear h1 k5 k5b k6 k6b k7 k7b k8 k8b
      go_wp2_with fail
      exact bodyPost_ret (v := .bool (((modsOf name h).length : Int) == 0)) (by simp only [results, Tryz.results50]; go_simp) rfl ⟨by rw [HR9.out, dec_zero], HB5.out⟩
     ·have k9b : (k == 9) = false := by simpa using k9
      have HR0 := Lib.hid (ruleB_0 name (modsOf name h) (opnsOf h) (k := k) t a1 b1 nm ot (by simpa using h1) k5 k6 k7 k8 k9)
      clear h1 k5 k6 k7 k8 k9
      go_wp2_with fail
      exact bodyPost_ret (v := .bool true) (by simp only [results, Tryz.results50]; go_simp) rfl ⟨by rw [HR0.out], HB5.out⟩
theorem RCan_any {a : Option Addr} {h : List Evt} {w : World} (c : Nat) (name : ByteArray) (hh : EvAt a h w) (hl : h.length ≤ 10000) (hf : Few h) (hnm : name.size ≤ 1000) (e : Evt) :
  Calls Tryz.prog 50 #[.string name, .slice a h.length c, evX e] w fun en w' => en = .returned (.bool (canR name h e)) ∧ Below w.heap.size w w' := by
 obtain ⟨k, t, a1, b1, nm, ot⟩ := e
 by_cases hn : h = []
 ·subst hn
  exact RCan_0 c name k t a1 b1 nm ot
 ·obtain ⟨j, hj⟩ : ∃ j, h.length = j + 1 := ⟨h.length - 1, by have : h.length ≠ 0 := fun e => hn (List.length_eq_zero_iff.1 e); omega⟩
  obtain ⟨z, hz⟩ : ∃ z, h[j]? = some z := ⟨h[j]'(by omega), List.getElem?_eq_getElem (by omega)⟩
  have hg : h.getLast? = some z := by rw [List.getLast?_eq_getElem?, hj]; exact hz
  cases h1 : (k == 1)
  ·by_cases h2 : t < z.2.1
   ·rw [canR_A hg (Or.inr (Or.inl h2))]; exact RCan_B c j name hh hl hj z hz k t a1 b1 nm ot h1 h2
   ·cases h3 : (z.1 == 9)
    ·rw [canR_D hg (by simpa using h1) h2 (by simpa using h3)]; exact RCan_D c j name hh hl hj z hz k t a1 b1 nm ot hf hnm h1 h2 h3
    ·rw [canR_A hg (Or.inr (Or.inr (by simpa using h3)))]; exact RCan_C c j name hh hl hj z hz k t a1 b1 nm ot h1 h2 h3
  ·rw [canR_A hg (Or.inl (by simpa using h1))]; exact RCan_A c j name hh hl hj z hz k t a1 b1 nm ot h1
end Go.Proofs.YtmpilgkfbibhlaaGreatDoor
namespace Go.Proofs.YtmpilgkfbibhlaaGreatDoor
open Go.RowKit
section
variable {P : Program} {ops : Array Oper} {Q : Exit → Act → World → Prop}
def egK (ops : Array Oper) (N f z : Nat) (E : List (Nat × Nat)) (plan : List (Option Nat × List Nat)) : Bool :=
 ((List.range N).all fun i => match ops[i]?, plan[i]? with
 | some o, some p => (match o.guard with | none => true | some (j, _) => (waits ops i).contains j && E.all fun e => decide (e.1 ≠ j)) && plainOp o.op && (o.op.operands.all fun x => match x with
   | .tmp t => (E.map (·.2)).contains t || (List.range N).all fun j => decide (dstOf ops j ≠ some t) || (waits ops i).contains j
   | _ => true) && ((List.range N).all fun j => decide (j = i) || decide (dstOf ops j = none) || decide (dstOf ops j ≠ dstOf ops i)) &&
   (p.2.all fun k => match E[k]? with | some e => (waits ops i).contains e.1 || (waits ops i).any fun j => (ancs ops f j).contains e.1 | none => false) &&
   (match p.1 with | none => E.all fun e => decide (e.1 ≠ i) | some k => (match E[k]? with | some e => decide (e.1 = i) | none => false))
 | _, _ => false) &&
 ((List.range E.length).all fun k => match E[k]? with | some e => decide (e.1 < N) && (decide (dstOf ops e.1 = some e.2) && decide (e.2 < z) || decide (dstOf ops e.1 = none) && decide (z ≤ e.2)) && decide ((plan[e.1]?).map (·.1) = some (some k)) | none => false)
structure EgKAt (ops : Array Oper) (N f : Nat) (E : List (Nat × Nat)) (plan : List (Option Nat × List Nat)) (i : Nat) (o : Oper) (p : Option Nat × List Nat) : Prop where
 plan : plan[i]? = some p
 guard : ∀ j want, o.guard = some (j, want) → j ∈ waits ops i ∧ ∀ e ∈ E, e.1 ≠ j
 sel : ∀ cs b, o.op ≠ .select cs b
 looks : ∀ t, Operand.tmp t ∈ o.op.operands → t ∈ E.map (·.2) ∨ ∀ j, j < N → dstOf ops j = some t → j ∈ waits ops i
 one : ∀ j, j < N → j ≠ i → dstOf ops j = none ∨ dstOf ops j ≠ dstOf ops i
 need : ∀ k ∈ p.2, ∃ e, E[k]? = some e ∧ (e.1 ∈ waits ops i ∨ ∃ j ∈ waits ops i, e.1 ∈ ancs ops f j)
 no : p.1 = none → ∀ e ∈ E, e.1 ≠ i
 yes : ∀ k, p.1 = some k → ∃ e, E[k]? = some e ∧ e.1 = i
theorem egk_at {N f z i : Nat} {E : List (Nat × Nat)} {plan : List (Option Nat × List Nat)} {o : Oper} (h : egK ops N f z E plan = true) (hi : i < N) (ho : ops[i]? = some o) : ∃ p, EgKAt ops N f E plan i o p := by
 unfold egK at h
 rw [Bool.and_eq_true] at h
 have h1 := List.all_eq_true.1 h.1 i (List.mem_range.2 hi)
 rw [ho] at h1
 cases hp : plan[i]? with
 | none => rw [hp] at h1; cases h1
 | some p =>
  rw [hp] at h1
  simp only [Bool.and_eq_true] at h1
  obtain ⟨⟨⟨⟨⟨h1, h2⟩, h4⟩, h5⟩, h6⟩, h7⟩ := h1
  refine ⟨p, hp, ?_, ?_, ?_, ?_, ?_, ?_, ?_⟩
  ·intro j want e
   rw [e] at h1
   simp only [Bool.and_eq_true] at h1
   exact ⟨by simpa using h1.1, by simpa using h1.2⟩
  ·intro cs b e; rw [e] at h2; simp [plainOp] at h2
  ·intro t ht
   rw [Array.all_eq_true'] at h4
   have h8 := h4 (.tmp t) ht
   simp only [Bool.or_eq_true] at h8
   rcases h8 with h8 | h8
   ·exact Or.inl (by simpa using h8)
   ·refine Or.inr fun j hj hd => ?_
    have h9 := List.all_eq_true.1 h8 j (List.mem_range.2 hj)
    simp only [Bool.or_eq_true, decide_eq_true_eq] at h9
    rcases h9 with h9 | h9
    ·exact absurd hd h9
    ·simpa using h9
  ·intro j hj hne
   have h8 := List.all_eq_true.1 h5 j (List.mem_range.2 hj)
   simp only [Bool.or_eq_true, decide_eq_true_eq] at h8
   rcases h8 with (h8 | h8) | h8
   ·exact absurd h8 hne
   ·exact Or.inl h8
   ·exact Or.inr h8
  ·intro k hk
   have h8 := List.all_eq_true.1 h6 k hk
   cases he : E[k]? with
   | none => rw [he] at h8; cases h8
   | some e =>
    rw [he] at h8
    simp only [Bool.or_eq_true, List.any_eq_true] at h8
    refine ⟨e, rfl, ?_⟩
    rcases h8 with h8 | ⟨j, h8, h9⟩
    ·exact Or.inl (by simpa using h8)
    ·exact Or.inr ⟨j, h8, by simpa using h9⟩
  ·intro hn e he
   rw [hn] at h7
   simpa using List.all_eq_true.1 h7 e he
  ·intro k hk
   rw [hk] at h7
   simp only at h7
   cases he : E[k]? with
   | none => rw [he] at h7; cases h7
   | some e => rw [he] at h7; exact ⟨e, rfl, by simpa using h7⟩
theorem egk_eff {N f z k : Nat} {E : List (Nat × Nat)} {plan : List (Option Nat × List Nat)} {e : Nat × Nat} (h : egK ops N f z E plan = true) (he : E[k]? = some e) : e.1 < N ∧ (dstOf ops e.1 = some e.2 ∧ e.2 < z ∨ dstOf ops e.1 = none ∧ z ≤ e.2) ∧ (plan[e.1]?).map (·.1) = some (some k) := by
 unfold egK at h
 rw [Bool.and_eq_true] at h
 have hk : k < E.length := (List.getElem?_eq_some_iff.1 he).1
 have h1 := List.all_eq_true.1 h.2 k (List.mem_range.2 hk)
 rw [he] at h1
 simp only [Bool.and_eq_true, Bool.or_eq_true, decide_eq_true_eq] at h1
 exact ⟨h1.1.1, h1.1.2, h1.2⟩
def GdS (ops : Array Oper) (AF : Act) (o : Oper) : Prop := ∃ j want d b, o.guard = some (j, want) ∧ dstOf ops j = some d ∧ AF.tmps[d]? = some (.bool b) ∧ (b == want) = false
def GdT (ops : Array Oper) (AF : Act) (o : Oper) : Prop := o.guard = none ∨ ∃ j want d, o.guard = some (j, want) ∧ dstOf ops j = some d ∧ AF.tmps[d]? = some (.bool want)
def RdK (P : Program) (ops : Array Oper) (St : List Bool → List Value → World → Prop) (AF : Act) (E : List (Nat × Nat)) (need : List Nat) (o : Oper) : Prop :=
 (GdS ops AF o ∧ ∃ d, o.dst = some d ∧ AF.tmps[d]? = some undef) ∨ (GdT ops AF o ∧ RdE P St AF E need o)
def EfK (P : Program) (ops : Array Oper) (St : List Bool → List Value → World → Prop) (AF : Act) (E : List (Nat × Nat)) (k : Nat) (need : List Nat) (o : Oper) : Prop := GdT ops AF o ∧ EfG P St AF E k need o
theorem want_y {o : Oper} {ts : Array Value} {j d : Nat} {want b : Bool} (h1 : o.guard = some (j, want)) (h2 : dstOf ops j = some d) (h3 : ts[d]? = some (.bool b)) : Region.wanted o (yielded ops ts) = (b == want) := by
 unfold Region.wanted yielded
 rw [h1]
 dsimp only
 unfold dstOf at h2
 rw [h2, Option.bind_some, h3]
 cases b <;> cases want <;> rfl
theorem region_gall {id : Nat} {a : Act} {w : World} (N f z : Nat) (E : List (Nat × Nat)) (plan : List (Option Nat × List Nat)) (vals : List (Nat × Value)) (St : List Bool → List Value → World → Prop) (hm : P.follows .mixedOrders = true) (he : early ops = true) (hs0 : ops.size = N) (hz : a.tmps.size = z)
  (hH : egK ops N f z E plan = true)
  (hds : vals.map (fun p => some p.1) = ((List.range N).filter fun i => E.all fun e => decide (e.1 ≠ i)).map (dstOf ops))
  (h0 : ∀ vs, vs.length = E.length → St (E.map fun _ => false) vs w.drew) (each : AllE (RdK P ops St (updAll a vals) E) (EfK P ops St (updAll a vals) E) plan ops.toList)
  (done : ∀ vs W, vs.length = E.length → St (E.map fun _ => true) vs W → Q .normal (putE (updAll a vals) E vs) W) :
  (Code.region id ops true).wp P Q a w := by
 have hidx : ∀ j, (E.all fun e => decide (e.1 ≠ j)) = true ↔ ∀ e ∈ E, e.1 ≠ j := fun j => by simp
 have hsame : ∀ t, (∀ j, j < N → (∀ e ∈ E, e.1 ≠ j) → dstOf ops j ≠ some t) → (updAll a vals).tmps[t]? = a.tmps[t]? := fun t ht => updAll_same _ _ _ fun p hp e => by
  have h1 : some p.1 ∈ vals.map (fun p => some p.1) := List.mem_map.2 ⟨p, hp, rfl⟩
  rw [hds] at h1
  obtain ⟨j, hj, hjd⟩ := List.mem_map.1 h1
  obtain ⟨hj1, hj2⟩ := List.mem_filter.1 hj
  exact ht j (List.mem_range.1 hj1) ((hidx j).1 hj2) (by rw [hjd, e])
 have hdf : (updAll a vals).defers = a.defers := updAll_defers _ _
 have hsz : (updAll a vals).tmps.size = a.tmps.size := updAll_size _ _
 have hob : ∀ (i : Nat) (o : Oper) (p : Option Nat × List Nat), ops[i]? = some o → plan[i]? = some p → (match p.1 with | none => RdK P ops St (updAll a vals) E p.2 o | some k => EfK P ops St (updAll a vals) E k p.2 o) := fun i o p ho hp => each.at_ i o p (by
  rw [Array.getElem?_toList]; exact ho) hp
 clear each
 generalize updAll a vals = AF at *
 refine region_inv hm he (fun l x W => l.size = ops.size ∧ Shut ops l ∧ x.defers = a.defers ∧ x.tmps.size = a.tmps.size ∧
  (∀ j, j < N → (∀ e ∈ E, e.1 ≠ j) → l.getD j false = true → ∀ t, dstOf ops j = some t → x.tmps[t]? = AF.tmps[t]?) ∧
  (∀ t, (∀ j, j < N → dstOf ops j = some t → l.getD j false = false) → x.tmps[t]? = a.tmps[t]?) ∧ St (E.map fun e => l.getD e.1 false) (E.map fun e => x.tmps.getD e.2 undef) W) ?_ (fun l a w h => h.1) ?_ ?_
 ·refine ⟨by simp, ?_, rfl, rfl, fun j hj _ h => ?_, fun _ _ => rfl, ?_⟩
  ·intro i hi
   rw [Array.getD_eq_getD_getElem?] at hi
   by_cases h : i < ops.size <;> simp [h] at hi
  ·rw [Array.getD_eq_getD_getElem?] at h
   simp [hs0, hj] at h
  ·have e : ∀ k, (Array.replicate ops.size false).getD k false = false := by
    intro k
    rw [Array.getD_eq_getD_getElem?]
    by_cases h : k < ops.size <;> simp [h]
   simp only [e]
   exact h0 _ (by simp)
 ·rintro i o ho l x W ⟨hs, hS, x1, x2, x3, x4, x5⟩ hl hd
  have hio : i < ops.size := (Array.getElem?_eq_some_iff.1 ho).1
  have hil : i < l.size := by rw [hs]; exact hio
  have hi : i < N := by omega
  have hw := waits_ok ho hd
  have hS2 := hS.set hil hw
  have hs2 : (l.setIfInBounds i true).size = ops.size := by simpa using hs
  have hFx := putE_get AF x (by rw [hsz, x2]) E
  obtain ⟨p, hC⟩ := egk_at hH hi ho
  have hev : ∀ y ∈ o.op.operands, x.eval y = (putE AF E (E.map fun e => x.tmps.getD e.2 undef)).eval y := by
   intro y hy
   refine eval_same fun t ht => ?_
   subst ht
   rw [hFx]
   by_cases c1 : t ∈ E.map (·.2)
   ·rw [if_pos c1]
   ·rw [if_neg c1]
    rcases hC.looks t hy with c2 | c2
    ·exact absurd c2 c1
    by_cases hc : ∃ j, j < N ∧ dstOf ops j = some t
    ·obtain ⟨j, hj, hjt⟩ := hc
     refine x3 j hj (fun e heE hej => c1 ?_) (hw j (c2 j hj hjt)) t hjt
     obtain ⟨k, hk⟩ := List.getElem?_of_mem heE
     rcases (egk_eff hH hk).2.1 with ⟨q, -⟩ | ⟨q, -⟩
     ·rw [hej, hjt] at q
      exact List.mem_map.2 ⟨e, heE, (Option.some.inj q).symm⟩
     ·rw [hej, hjt] at q
      cases q
    ·have hno : ∀ j, j < N → dstOf ops j ≠ some t := fun j hj e => hc ⟨j, hj, e⟩
     rw [x4 t (fun j hj e => absurd e (hno j hj)), hsame t (fun j hj _ => hno j hj)]
  have hex := execOp_congr o hC.sel hev
  have hneed : ∀ k ∈ p.2, (E.map fun e => l.getD e.1 false).getD k false = true := by
   intro k hk
   obtain ⟨e, he1, he2⟩ := hC.need k hk
   rw [List.getD_eq_getElem?_getD, List.getElem?_map, he1]
   exact shut_ancG hS hw he2
  have hO := hob i o p ho hC.plan
  have hgv : ∀ j want d, o.guard = some (j, want) → dstOf ops j = some d → x.tmps[d]? = AF.tmps[d]? := fun j want d h1 h2 => by
   obtain ⟨g1, g2⟩ := hC.guard j want h1
   have hj : j < N := by
    unfold dstOf at h2
    cases hq : ops[j]? with
    | none => rw [hq] at h2; cases h2
    | some q => have := (Array.getElem?_eq_some_iff.1 hq).1; omega
   exact x3 j hj g2 (hw j g1) d h2
  have hgt : GdT ops AF o → Region.wanted o (yielded ops x.tmps) = true := fun h => by
   rcases h with h | ⟨j, want, d, h1, h2, h3⟩
   ·unfold Region.wanted; rw [h]
   ·rw [want_y h1 h2 ((hgv j want d h1 h2).trans h3)]; cases want <;> rfl
  have hgs : GdS ops AF o → Region.wanted o (yielded ops x.tmps) = false := fun h => by
   obtain ⟨j, want, d, b, h1, h2, h3, h4⟩ := h
   rw [want_y h1 h2 ((hgv j want d h1 h2).trans h3)]; exact h4
  cases hdo : o.dst with
  | none =>
   have hdi : dstOf ops i = none := by unfold dstOf; rw [ho]; exact hdo
   obtain ⟨pk, nd⟩ := p
   cases pk with
   | none =>
    rcases hO with ⟨-, d', g1, -⟩ | ⟨-, d', v, g1, -⟩
    ·rw [hdo] at g1; cases g1
    ·rw [hdo] at g1; cases g1
   | some k =>
    obtain ⟨hGT, hO⟩ := hO
    rcases hO with ⟨d', g1, -⟩ | ⟨-, g3⟩
    ·rw [hdo] at g1
     cases g1
    obtain ⟨ek, hk, hek⟩ := hC.yes k rfl
    have qk := egk_eff hH hk
    have hbk : (E.map fun e => l.getD e.1 false).getD k false = false := by
     rw [List.getD_eq_getElem?_getD, List.getElem?_map, hk]
     show l.getD ek.1 false = false
     rw [hek]
     exact getD_tf hl
    have hkl : k < E.length := (List.getElem?_eq_some_iff.1 hk).1
    have hm : ∀ m e, E[m]? = some e → e.1 = i → m = k := by
     intro m e hme h
     have q := (egk_eff hH hme).2.2
     have q' := qk.2.2
     rw [h] at q
     rw [hek, q] at q'
     exact Option.some.inj (Option.some.inj q')
    have q1 : (E.map fun e => (l.setIfInBounds i true).getD e.1 false) = (E.map fun e => l.getD e.1 false).set k true := by
     refine List.ext_getElem? fun m => ?_
     rw [List.getElem?_set, List.getElem?_map, List.getElem?_map]
     cases hE : E[m]? with
     | none =>
      have : E.length ≤ m := List.getElem?_eq_none_iff.1 hE
      rw [if_neg (by omega)]; rfl
     | some e =>
      simp only [Option.map_some]
      rw [getD_set1 hil]
      by_cases c : k = m
      ·subst c
       rw [hk] at hE
       obtain rfl := Option.some.inj hE
       rw [if_pos hek.symm, if_pos rfl, if_pos (by simpa using hkl)]
      ·rw [if_neg (fun h => c (hm m e hE h.symm).symm), if_neg c]
    unfold wpOp
    rw [ho]
    dsimp only
    rw [if_pos (hgt hGT)]
    refine Or.inl ?_
    have h1 := g3 _ _ W (by simp) (by simp) hneed hbk x5 (fun a' w' => a' = putE AF E (E.map fun e => x.tmps.getD e.2 undef) ∧ St ((E.map fun e => l.getD e.1 false).set k true) (E.map fun e => x.tmps.getD e.2 undef) w') (fun _ _ _ => False) (fun W' h => ⟨rfl, h⟩)
    have h2 : o.wp P x W (fun a' w' => a' = x ∧ St ((E.map fun e => l.getD e.1 false).set k true) (E.map fun e => x.tmps.getD e.2 undef) w') Q := by
     unfold Oper.wp at h1 ⊢
     rw [hex]
     exact upon_congr0 hdo h1
    refine Oper.wp_mono ?_ h2
    rintro a' w' ⟨rfl, hv⟩
    refine ⟨hs2, hS2, x1, x2, ?_, ?_, ?_⟩
    ·intro j hj m1 hjl t hjt
     have hji : j ≠ i := fun c => by subst c; rw [hdi] at hjt; cases hjt
     rw [getD_set1 hil, if_neg (fun c => hji c.symm)] at hjl
     exact x3 j hj m1 hjl t hjt
    ·intro t ht
     refine x4 t fun j hj hjt => ?_
     have := ht j hj hjt
     rw [getD_set1 hil] at this
     split at this
     ·cases this
     ·exact this
    ·rw [q1]
     exact hv
  | some d =>
   have hd1 := hdo
   have hdi : dstOf ops i = some d := by unfold dstOf; rw [ho]; exact hd1
   have hput : GdT ops AF o → d < a.tmps.size → ∀ (C : Value → World → Prop), (∀ (K : Act → World → Prop) (Q : Exit → Act → World → Prop), (∀ v W', C v W' → K ((putE AF E (E.map fun e => x.tmps.getD e.2 undef)).put (some d) v) W') → o.wp P (putE AF E (E.map fun e => x.tmps.getD e.2 undef)) W K Q) → wpOp P ops Q i (fun a' w' => ∃ v, a' = x.put (some d) v ∧ C v w') x W := by
    intro hGT hdlt C hC2
    unfold wpOp
    rw [ho]
    dsimp only
    rw [if_pos (hgt hGT)]
    refine Or.inl ?_
    have h1 := hC2 (fun a' w' => ∃ v, a' = (putE AF E (E.map fun e => x.tmps.getD e.2 undef)).put (some d) v ∧ C v w') (fun _ _ _ => False) (fun v W' h => ⟨v, rfl, h⟩)
    unfold Oper.wp at h1 ⊢
    rw [hex]
    exact upon_congr hd1 (by rw [putE_size, hsz]; exact hdlt) h1
   have hgd : d < a.tmps.size → ∀ (v : Value) (t : Nat), (x.put (some d) v).tmps.getD t undef = if d = t then v else x.tmps.getD t undef := by
    intro hdlt v t
    rw [Array.getD_eq_getD_getElem?, put_at]
    by_cases e : d = t
    ·rw [if_pos e, if_pos e, if_pos (by rw [x2]; exact hdlt)]; rfl
    ·rw [if_neg e, if_neg e, Array.getD_eq_getD_getElem?]
   have hother : d < a.tmps.size → ∀ e ∈ E, e.1 ≠ i → d ≠ e.2 := by
    intro hdlt e heE hne c
    obtain ⟨k, hk⟩ := List.getElem?_of_mem heE
    have q := egk_eff hH hk
    rcases q.2.1 with ⟨q1, -⟩ | ⟨-, q2⟩
    ·rcases hC.one e.1 q.1 hne with h | h
     ·rw [q1] at h; cases h
     ·exact h (by rw [q1, hdi, c])
    ·exact absurd q2 (by rw [← c, ← hz]; exact Nat.not_le.2 hdlt)
   have hfr : d < a.tmps.size → ∀ v W', (p.1 = none → AF.tmps[d]? = some v) → St (E.map fun e => (l.setIfInBounds i true).getD e.1 false) (E.map fun e => (x.put (some d) v).tmps.getD e.2 undef) W' →
     ((l.setIfInBounds i true).size = ops.size ∧ Shut ops (l.setIfInBounds i true) ∧ (x.put (some d) v).defers = a.defers ∧ (x.put (some d) v).tmps.size = a.tmps.size ∧
  (∀ j, j < N → (∀ e ∈ E, e.1 ≠ j) → (l.setIfInBounds i true).getD j false = true → ∀ t, dstOf ops j = some t → (x.put (some d) v).tmps[t]? = AF.tmps[t]?) ∧
  (∀ t, (∀ j, j < N → dstOf ops j = some t → (l.setIfInBounds i true).getD j false = false) → (x.put (some d) v).tmps[t]? = a.tmps[t]?) ∧ St (E.map fun e => (l.setIfInBounds i true).getD e.1 false) (E.map fun e => (x.put (some d) v).tmps.getD e.2 undef) W') := by
    intro hdlt v W' hv hSt
    have hlt : d < x.tmps.size := by rw [x2]; exact hdlt
    refine ⟨hs2, hS2, x1, by simpa [Act.put] using x2, ?_, ?_, hSt⟩
    ·intro j hj m1 hjl t hjt
     rw [put_at]
     by_cases e : d = t
     ·subst e
      rw [if_pos rfl, if_pos hlt]
      have hji : j = i := Classical.byContradiction fun c => by
       rcases hC.one j hj c with h | h
       ·rw [hjt] at h; cases h
       ·exact h (by rw [hjt, hdi])
      subst hji
      refine (hv ?_).symm
      cases hp : p.1 with
      | none => rfl
      | some k => obtain ⟨e, he1, he2⟩ := hC.yes k hp; exact absurd he2 (m1 e (List.mem_of_getElem? he1))
     ·rw [if_neg e]
      have hji : j ≠ i := fun c => by subst c; rw [hdi] at hjt; exact e (Option.some.inj hjt)
      rw [getD_set1 hil, if_neg (fun c => hji c.symm)] at hjl
      exact x3 j hj m1 hjl t hjt
    ·intro t ht
     rw [put_at]
     have hdt : d ≠ t := fun c => by
      subst c
      have := ht i hi hdi
      rw [getD_set1 hil, if_pos rfl] at this
      cases this
     rw [if_neg hdt]
     refine x4 t fun j hj hjt => ?_
     have := ht j hj hjt
     rw [getD_set1 hil] at this
     split at this
     ·cases this
     ·exact this
   obtain ⟨pk, nd⟩ := p
   cases pk with
   | none =>
    rcases hO with ⟨hGS, d', g1, g2⟩ | ⟨hGT, d', v, g1, g2, g3⟩
    ·rw [hd1] at g1
     obtain rfl : d = d' := Option.some.inj g1
     have hdlt : d < a.tmps.size := by
      have := (Array.getElem?_eq_some_iff.1 g2).1
      rw [hsz] at this
      exact this
     have hE := hC.no rfl
     unfold wpOp
     rw [ho]
     dsimp only
     rw [hgs hGS, hd1]
     refine hfr hdlt undef W (fun _ => g2) ?_
     have q1 : (E.map fun e => (l.setIfInBounds i true).getD e.1 false) = E.map fun e => l.getD e.1 false := List.map_congr_left fun e he => by
      rw [getD_set1 hil, if_neg (fun c => hE e he c.symm)]
     have q2 : (E.map fun e => (x.put (some d) undef).tmps.getD e.2 undef) = E.map fun e => x.tmps.getD e.2 undef := List.map_congr_left fun e he => by
      rw [hgd hdlt, if_neg (hother hdlt e he (hE e he))]
     rw [q1, q2]
     exact x5
    rw [hd1] at g1
    obtain rfl : d = d' := Option.some.inj g1
    have hdlt : d < a.tmps.size := by
     have := (Array.getElem?_eq_some_iff.1 g2).1
     rw [hsz] at this
     exact this
    have hE := hC.no rfl
    refine wpOp_mono ?_ (hput hGT hdlt (fun v' W' => v' = v ∧ St (E.map fun e => l.getD e.1 false) (E.map fun e => x.tmps.getD e.2 undef) W') (fun K Q hK => g3 _ _ W (by simp) (by simp) hneed x5 K Q (fun W' h => hK v W' ⟨rfl, h⟩)))
    rintro a' w' ⟨v', rfl, rfl, hv⟩
    refine hfr hdlt v' w' (fun _ => g2) ?_
    have q1 : (E.map fun e => (l.setIfInBounds i true).getD e.1 false) = E.map fun e => l.getD e.1 false := List.map_congr_left fun e he => by
     rw [getD_set1 hil, if_neg (fun c => hE e he c.symm)]
    have q2 : (E.map fun e => (x.put (some d) v').tmps.getD e.2 undef) = E.map fun e => x.tmps.getD e.2 undef := List.map_congr_left fun e he => by
     rw [hgd hdlt, if_neg (hother hdlt e he (hE e he))]
    rw [q1, q2]
    exact hv
   | some k =>
    obtain ⟨hGT, hO⟩ := hO
    rcases hO with ⟨d', g1, g3⟩ | ⟨g1, -⟩
    rotate_left
    ·rw [hd1] at g1; cases g1
    rw [hd1] at g1
    obtain rfl : d = d' := Option.some.inj g1
    obtain ⟨ek, hk, hek⟩ := hC.yes k rfl
    have qk := egk_eff hH hk
    have hq : d = ek.2 ∧ ek.2 < z := by
     rcases qk.2.1 with ⟨q1, q2⟩ | ⟨q1, -⟩
     ·rw [hek, hdi] at q1
      exact ⟨Option.some.inj q1, q2⟩
     ·rw [hek, hdi] at q1
      cases q1
    have hde := hq.1
    have hdlt : d < a.tmps.size := by rw [hde, hz]; exact hq.2
    have hbk : (E.map fun e => l.getD e.1 false).getD k false = false := by
     rw [List.getD_eq_getElem?_getD, List.getElem?_map, hk]
     show l.getD ek.1 false = false
     rw [hek]
     exact getD_tf hl
    refine wpOp_mono ?_ (hput hGT hdlt (fun v' W' => St ((E.map fun e => l.getD e.1 false).set k true) ((E.map fun e => x.tmps.getD e.2 undef).set k v') W') (fun K Q hK => g3 _ _ W (by simp) (by simp) hneed hbk x5 K Q hK))
    rintro a' w' ⟨v', rfl, hv⟩
    refine hfr hdlt v' w' (fun c => by cases c) ?_
    have hkl : k < E.length := (List.getElem?_eq_some_iff.1 hk).1
    have hm : ∀ m e, E[m]? = some e → e.1 = i → m = k := by
     intro m e hme h
     have q := (egk_eff hH hme).2.2
     have q' := qk.2.2
     rw [h] at q
     rw [hek, q] at q'
     exact Option.some.inj (Option.some.inj q')
    have q1 : (E.map fun e => (l.setIfInBounds i true).getD e.1 false) = (E.map fun e => l.getD e.1 false).set k true := by
     refine List.ext_getElem? fun m => ?_
     rw [List.getElem?_set, List.getElem?_map, List.getElem?_map]
     cases hE : E[m]? with
     | none =>
      have : E.length ≤ m := List.getElem?_eq_none_iff.1 hE
      rw [if_neg (by omega)]; rfl
     | some e =>
      simp only [Option.map_some]
      rw [getD_set1 hil]
      by_cases c : k = m
      ·subst c
       rw [hk] at hE
       obtain rfl := Option.some.inj hE
       rw [if_pos hek.symm, if_pos rfl, if_pos (by simpa using hkl)]
      ·rw [if_neg (fun h => c (hm m e hE h.symm).symm), if_neg c]
    have q2 : (E.map fun e => (x.put (some d) v').tmps.getD e.2 undef) = (E.map fun e => x.tmps.getD e.2 undef).set k v' := by
     refine List.ext_getElem? fun m => ?_
     rw [List.getElem?_set, List.getElem?_map, List.getElem?_map]
     cases hE : E[m]? with
     | none =>
      have : E.length ≤ m := List.getElem?_eq_none_iff.1 hE
      rw [if_neg (by omega)]; rfl
     | some e =>
      simp only [Option.map_some]
      rw [hgd hdlt]
      by_cases c : k = m
      ·subst c
       rw [hk] at hE
       obtain rfl := Option.some.inj hE
       rw [if_pos hde, if_pos rfl, if_pos (by simpa using hkl)]
      ·have hne : e.1 ≠ i := fun h => c (hm m e hE h).symm
       rw [if_neg (hother hdlt e (List.mem_of_getElem? hE) hne), if_neg c]
    rw [q1, q2]
    exact hv
 ·rintro l x W ⟨hs, hS, x1, x2, x3, x4, x5⟩ hall
  have hall' : ∀ j, j < N → l.getD j false = true := fun j hj => getD_tt (by omega) (hall j (by omega))
  have q1 : (E.map fun e => l.getD e.1 false) = E.map fun _ => true := List.map_congr_left fun e he => by
   obtain ⟨k, hk⟩ := List.getElem?_of_mem he
   exact hall' e.1 (egk_eff hH hk).1
  rw [q1] at x5
  have hFx := putE_get AF x (by rw [hsz, x2]) E
  have hx : x = putE AF E (E.map fun e => x.tmps.getD e.2 undef) := by
   refine act_ext (Array.ext_getElem? fun t => ?_) (by rw [putE_defers, hdf, x1])
   rw [hFx]
   by_cases c1 : t ∈ E.map (·.2)
   ·rw [if_pos c1]
   ·rw [if_neg c1]
    by_cases hc : ∃ j, j < N ∧ dstOf ops j = some t
    ·obtain ⟨j, hj, hjt⟩ := hc
     refine x3 j hj (fun e heE hej => c1 ?_) (hall' j hj) t hjt
     obtain ⟨k, hk⟩ := List.getElem?_of_mem heE
     rcases (egk_eff hH hk).2.1 with ⟨q, -⟩ | ⟨q, -⟩
     ·rw [hej, hjt] at q
      exact List.mem_map.2 ⟨e, heE, (Option.some.inj q).symm⟩
     ·rw [hej, hjt] at q
      cases q
    ·have hno : ∀ j, j < N → dstOf ops j ≠ some t := fun j hj e => hc ⟨j, hj, e⟩
     rw [x4 t (fun j hj e => absurd e (hno j hj)), hsame t (fun j hj _ => hno j hj)]
  have ht := done _ W (by simp) x5
  rw [← hx] at ht
  exact ht
end
end Go.Proofs.YtmpilgkfbibhlaaGreatDoor
namespace Go.Proofs.YtmpilgkfbibhlaaGreatDoor
open Go.RowKit
theorem pany_take {ps : List Nat} {j n : Nat} (h : (ps.take j).any (fun n => decide (P31 ≤ n)) = false) (hk : ps[j]? = some n) (hb : ¬ P31 ≤ n) : (ps.take (j + 1)).any (fun n => decide (P31 ≤ n)) = false := by
 rw [List.take_add_one, hk, List.any_append, h]
 simpa using hb
theorem badBk_is (p : Nat) (ps : List Nat) : badBk (p, ps) = (decide (p < 1) || decide (P31 ≤ p) || decide (5000 < ps.length) || ps.any fun n => decide (P31 ≤ n)) := rfl
def secL (bks : List Bk) : Int := bif bks.any badBk then 2 else 0
theorem secL_bad {bks : List Bk} {i : Nat} {bk : Bk} (hk : bks[i]? = some bk) (hb : badBk bk = true) : secL bks = 2 := by unfold secL; rw [any_at hk hb]; rfl
theorem secL_good {bks : List Bk} (h : (bks.take bks.length).any badBk = false) : secL bks = 0 := by
 rw [List.take_of_length_le (Nat.le_refl _)] at h
 unfold secL; rw [h]; rfl
set_option maxHeartbeats 4000000 in
set_option maxRecDepth 20000 in
theorem RSecrets_any {a : Option Addr} {bks : List Bk} {w : World} (pt c : Nat) (h : BksAt a bks w) (hl : bks.length ≤ 1000000 ∧ ∀ bk ∈ bks, bk.2.length ≤ 1000000) :
  Calls Tryz.prog 47 #[.int .u64 (pt : Int), .slice a bks.length c] w fun e w' => e = .returned (.int .i64 (secR pt bks)) ∧ Below w.heap.size w w' := by
 have CP : Hid (Calls Tryz.prog 108 #[.int .i64 2] w fun e w' => e = .returned (.int .u64 2147483647) ∧ w = w') := (Prime_any 2 w).mono fun e w' q => ⟨by rw [q.1]; rfl, q.2⟩
 have H0 := Lib.hid h
 have HLL := Lib.hid hl
 clear h hl
 unfold secR
 by_cases c1 : pt < 1
 ·rw [if_pos (Or.inl c1)]
  have d1 : (pt : Int) < 1 := by omega
  clear c1
  go_enter Tryz.func47, Tryz.ntmps47
  go_wp2_with (go_at_call 108; refine CP.out.mono ?_; rintro e w1 ⟨rfl, rfl⟩)
  exact bodyPost_ret (v := .int .i64 3) (by simp only [results, Tryz.results47]; go_simp) rfl ⟨rfl, Below.refl _ _⟩
 ·by_cases c2 : P31 ≤ pt
  ·rw [if_pos (Or.inr c2)]
   have d1 : ¬ (pt : Int) < 1 := by omega
   have d2 : (2147483647 : Int) ≤ pt := by unfold P31 at c2; omega
   clear c1 c2
   go_enter Tryz.func47, Tryz.ntmps47
   go_wp2_with (go_at_call 108; refine CP.out.mono ?_; rintro e w1 ⟨rfl, rfl⟩)
   exact bodyPost_ret (v := .int .i64 3) (by simp only [results, Tryz.results47]; go_simp) rfl ⟨rfl, Below.refl _ _⟩
  ·rw [if_neg (fun e => e.elim c1 c2)]
   have d1 : decide ((pt : Int) < 1) = false := decide_eq_false (by omega)
   have d2 : decide ((2147483647 : Int) ≤ pt) = false := decide_eq_false (by unfold P31 at c2; omega)
   clear c1 c2
   by_cases c3 : bks.length < 1
   ·rw [if_pos (Or.inl c3)]
    have d3 : decide ((bks.length : Int) < 1) = true := decide_eq_true (by omega)
    clear c3 HLL H0
    generalize bks.length = n at *
    go_enter Tryz.func47, Tryz.ntmps47
    go_wp2_with (go_at_call 108; refine CP.out.mono ?_; rintro e w1 ⟨rfl, rfl⟩)
    exact bodyPost_ret (v := .int .i64 2) (by simp only [results, Tryz.results47]; go_simp) rfl ⟨rfl, Below.refl _ _⟩
   ·by_cases c4 : 8 < bks.length
    ·rw [if_pos (Or.inr (Or.inl c4))]
     have d3 : decide ((bks.length : Int) < 1) = false := decide_eq_false (by omega)
     have d4 : decide ((8 : Int) < bks.length) = true := decide_eq_true (by omega)
     clear c3 c4 HLL H0
     generalize bks.length = n at *
     go_enter Tryz.func47, Tryz.ntmps47
     go_wp2_with (go_at_call 108; refine CP.out.mono ?_; rintro e w1 ⟨rfl, rfl⟩)
     exact bodyPost_ret (v := .int .i64 2) (by simp only [results, Tryz.results47]; go_simp) rfl ⟨rfl, Below.refl _ _⟩
    ·have hs : (if bks.length < 1 ∨ 8 < bks.length ∨ bks.any badBk = true then (2 : Int) else 0) = secL bks := by
      unfold secL
      cases hb : bks.any badBk
      ·rw [if_neg (by rintro (e | e | e); exact c3 e; exact c4 e; cases e)]; rfl
      ·rw [if_pos (Or.inr (Or.inr rfl))]; rfl
     rw [hs]
     have d3 : decide ((bks.length : Int) < 1) = false := decide_eq_false (by omega)
     have d4 : decide ((8 : Int) < bks.length) = false := decide_eq_false (by omega)
     have hl8 : bks.length ≤ 8 := by omega
     clear c3 c4 hs
     go_enter Tryz.func47, Tryz.ntmps47
     go_wp2_with (go_at_call 108; refine CP.out.mono ?_; rintro e w1 ⟨rfl, rfl⟩)
     clear d1 d2 d3 d4
     go_loopw [6] (fun ix wr => ∃ i : Nat, i ≤ bks.length ∧ ix = .int .i64 i ∧ Hid ((bks.take i).any badBk = false) ∧ Hid (Below w.heap.size w wr)) (fun ix _ => bks.length - (intOf ix).toNat)
     case atStart => exact ⟨0, by omega, rfl, rfl, Below.refl _ _⟩
     case round =>
      obtain ⟨i, hi, rfl, HT, HW⟩ := hrel
      by_cases hc : i < bks.length
      ·have c1 : (i : Int) < bks.length := by omega
       have c0 : (0 : Int) ≤ i := by omega
       obtain ⟨bk, hk⟩ : ∃ bk, bks[i]? = some bk := ⟨bks[i], List.getElem?_eq_getElem hc⟩
       have H1 := H0.out.step HW.out
       obtain ⟨b, off, rfl, hb0, hcs⟩ := H1 (by rintro rfl; simp at hc)
       obtain ⟨g0, vp, g1, hp⟩ := hcs i bk hk
       have HKK := Lib.hid hk
       have HP := Lib.hid hp
       have hpl := HLL.out.2 bk (List.mem_of_getElem? hk)
       obtain ⟨p, ps⟩ := bk
       dsimp only at g0 HP hpl
       obtain ⟨ap, cp, rfl, hpc⟩ := hp
       dsimp only at g1 hpc
       have HPC := Lib.hid hpc
       clear hcs hpc hk hc H1
       by_cases e1 : p < 1
       ·have d1 : decide ((p : Int) < 1) = true := decide_eq_true (by omega)
        have HR := Lib.hid (secL_bad HKK.out (by rw [badBk_is, decide_eq_true e1]; rfl))
        clear e1
        go_wp2_with fail
        exact bodyPost_ret (v := .int .i64 2) (by simp only [results, Tryz.results47]; go_simp) rfl ⟨by rw [HR.out], HW.out⟩
       ·have d1 : decide ((p : Int) < 1) = false := decide_eq_false (by omega)
        by_cases e2 : P31 ≤ p
        ·have d2 : decide ((2147483647 : Int) ≤ p) = true := decide_eq_true (by unfold P31 at e2; omega)
         have HR := Lib.hid (secL_bad HKK.out (by rw [badBk_is, decide_eq_true e2]; simp))
         clear e1 e2
         go_wp2_with fail
         exact bodyPost_ret (v := .int .i64 2) (by simp only [results, Tryz.results47]; go_simp) rfl ⟨by rw [HR.out], HW.out⟩
        ·have d2 : decide ((2147483647 : Int) ≤ p) = false := decide_eq_false (by unfold P31 at e2; omega)
         by_cases e3 : 5000 < ps.length
         ·have d3 : decide ((5000 : Int) < ps.length) = true := decide_eq_true (by omega)
          have HR := Lib.hid (secL_bad HKK.out (by rw [badBk_is, decide_eq_true e3]; simp))
          clear e1 e2 e3
          go_wp2_with fail
          exact bodyPost_ret (v := .int .i64 2) (by simp only [results, Tryz.results47]; go_simp) rfl ⟨by rw [HR.out], HW.out⟩
         ·have d3 : decide ((5000 : Int) < ps.length) = false := decide_eq_false (by omega)
          have HBB : Hid (badBk (p, ps) = ps.any fun n => decide (P31 ≤ n)) := by unfold Hid; rw [badBk_is, decide_eq_false e1, decide_eq_false e2, decide_eq_false e3]; rfl
          clear e1 e2 e3
          go_wp2_with fail
          clear d1 d2 d3
          have HPL := Lib.hid hpl
          clear hpl
          obtain ⟨wo, hwo⟩ : ∃ wo, wo = wr := ⟨wr, rfl⟩
          subst hwo
          have G0 := Lib.hid (And.intro g0 g1)
          clear g0 g1
          go_loopw [7] (fun jx wv => ∃ j : Nat, j ≤ ps.length ∧ jx = .int .i64 j ∧ Hid ((ps.take j).any (fun n => decide (P31 ≤ n)) = false) ∧ Hid (Below wo.heap.size wo wv)) (fun jx _ => ps.length - (intOf jx).toNat)
          case atStart => exact ⟨0, by omega, rfl, rfl, Below.refl _ _⟩
          case round =>
           obtain ⟨j, hj, rfl, HTJ, HWJ⟩ := hrel
           have g0 := cell_step G0.out.1 HWJ.out
           have g1 := cell_step G0.out.2 HWJ.out
           by_cases hcj : j < ps.length
           ·have k1 : (j : Int) < ps.length := by omega
            have k2 : (ps.length : Int) ≤ 1000000 := by have := HPL.out; omega
            have k0 : (0 : Int) ≤ j := by omega
            obtain ⟨n, hn⟩ : ∃ n, ps[j]? = some n := ⟨ps[j], List.getElem?_eq_getElem hcj⟩
            obtain ⟨bp, op, rfl, hbp, hcc⟩ := HPC.out (by rintro rfl; simp at hcj)
            have g2 := cell_step (hcc j n hn) HWJ.out
            have HN := Lib.hid hn
            clear hcc hn hcj HPC HP
            by_cases e4 : P31 ≤ n
            ·have d4 : decide ((2147483647 : Int) ≤ n) = true := decide_eq_true (by unfold P31 at e4; omega)
             have HR := Lib.hid (secL_bad HKK.out (by rw [HBB.out]; exact List.any_eq_true.2 ⟨n, List.mem_of_getElem? HN.out, decide_eq_true e4⟩))
             clear e4
             go_wp2_with fail
             exact bodyPost_ret (v := .int .i64 2) (by simp only [results, Tryz.results47]; go_simp) rfl ⟨by rw [HR.out], bStep HW.out HWJ.out⟩
            ·have d4 : decide ((2147483647 : Int) ≤ n) = false := decide_eq_false (by unfold P31 at e4; omega)
             have HE := Lib.hid (pany_take HTJ.out HN.out e4)
             clear e4
             go_wp2_with fail
             exact ⟨⟨j + 1, by omega, by push_cast; rfl, HE, HWJ⟩, by simp [intOf]; omega⟩
           ·obtain rfl : j = ps.length := by omega
            have HE := Lib.hid (any_take HT.out HKK.out (by rw [HBB.out]; have q := HTJ.out; rw [List.take_of_length_le (Nat.le_refl _)] at q; exact q))
            clear hcj
            go_wp2_with fail
            exact ⟨⟨i + 1, by omega, by push_cast; rfl, HE, bStep HW.out HWJ.out⟩, by simp [intOf]; omega⟩
      ·obtain rfl : i = bks.length := by omega
       clear hc
       go_wp2_with fail
       exact bodyPost_ret (v := .int .i64 0) (by simp only [results, Tryz.results47]; go_simp) rfl ⟨by rw [secL_good HT.out], HW.out⟩
end Go.Proofs.YtmpilgkfbibhlaaGreatDoor
namespace Go.Proofs.YtmpilgkfbibhlaaGreatDoor
open Sx Go.RowKit
set_option maxHeartbeats 2000000 in
set_option maxRecDepth 20000 in
theorem RName_any (s : ByteArray) (w : World) : Calls Tryz.prog 48 #[.string s] w fun e w' => e = .returned (.bool (nameB s)) ∧ Below w.heap.size w w' := by
 by_cases h1 : 1 ≤ s.size ∧ s.size ≤ 20
 ·obtain ⟨h1, h2⟩ := h1
  have h1' : ¬ (s.size : Int) < 1 := by omega
  have h2' : ¬ 20 < (s.size : Int) := by omega
  have hnb : nameB s = s.data.toList.all okc := by unfold nameB; rw [decide_eq_true ⟨h1, h2⟩, Bool.true_and]
  obtain ⟨R, hR⟩ : ∃ R, s.data.toList.all okc = R := ⟨_, rfl⟩
  rw [hnb, hR]
  have HR := Lib.hid hR
  have hlen := Lib.hid (show s.data.toList.length = s.size from (Lib.size_eq s).symm)
  clear hR hnb
  go_enter Tryz.func48, Tryz.ntmps48
  go_wp2_with fail
  go_loopw [3] (fun i wr => ∃ k : Nat, k ≤ s.size ∧ i = .int .i64 k ∧ Hid ((s.data.toList.take k).all okc = true) ∧ Below w.heap.size w wr) (fun i _ => s.size - (intOf i).toNat)
  case atStart => exact ⟨0, Nat.zero_le _, rfl, by simp [Hid], (by repeat' (first | exact Below.refl _ _ | assumption | apply bDrewN | apply bDrew | apply bAlloc | (refine bSet ?_ ?_ _) | (refine bStep ?_ (by assumption)) | omega | (simp <;> omega)))⟩
  case round =>
   obtain ⟨k, hk, rfl, HQ, kB⟩ := hrel
   have i1 : (0 : Int) ≤ (k : Int) := by omega
   by_cases hlt : k < s.size
   ·have hlt3 : (k : Int) < s.size := by omega
    have hlt2 : k < s.data.toList.length := by rw [hlen.out]; exact hlt
    have hget : s.data.toList[k] = s[k] := Array.getElem_toList _
    have HS := Lib.hid (show okc s[k] = true → (s.data.toList.take (k + 1)).all okc = true from fun h => by
     rw [List.take_succ_eq_append_getElem hlt2, List.all_append, HQ.out, hget]
     simp [h])
    have HN := Lib.hid (show okc s[k] = false → R = false from fun h => by
     rw [← HR.out, List.all_eq_false]
     exact ⟨s[k], by rw [← hget]; exact List.getElem_mem _, by simp [h]⟩)
    have hoc : okc s[k] = decide (97 ≤ s[k].toNat ∧ s[k].toNat ≤ 122 ∨ 48 ≤ s[k].toNat ∧ s[k].toNat ≤ 57) := rfl
    rw [hoc] at HS HN
    clear hoc hget HQ
    by_cases hok : 97 ≤ s[k].toNat ∧ s[k].toNat ≤ 122 ∨ 48 ≤ s[k].toNat ∧ s[k].toNat ≤ 57
    ·have HX := Lib.hid (HS.out (decide_eq_true hok))
     have hok' : (97 ≤ (s[k].toNat : Int) ∧ (s[k].toNat : Int) ≤ 122) ∨ ((s[k].toNat : Int) < 97 ∧ 48 ≤ (s[k].toNat : Int) ∧ (s[k].toNat : Int) ≤ 57) := by omega
     clear hok HS HN
     rcases hok' with ⟨q1, q2⟩ | ⟨q0, q1, q2⟩
     all_goals
      go_wp2_with fail
      go_roundw
      case rel => exact ⟨k + 1, by omega, by push_cast; rfl, HX, kB⟩
      case measure => (simp [intOf]; omega)
    ·have HN2 := Lib.hid (HN.out (decide_eq_false hok))
     have hok' : (97 ≤ (s[k].toNat : Int) ∧ 122 < (s[k].toNat : Int) ∧ 48 ≤ (s[k].toNat : Int) ∧ 57 < (s[k].toNat : Int)) ∨ ((s[k].toNat : Int) < 97 ∧ 48 ≤ (s[k].toNat : Int) ∧ 57 < (s[k].toNat : Int)) ∨ ((s[k].toNat : Int) < 97 ∧ (s[k].toNat : Int) < 48) := by omega
     clear hok HS HN
     rcases hok' with ⟨q1, q2, q3, q4⟩ | ⟨q1, q2, q3⟩ | ⟨q1, q2⟩
     ·have d1 : decide ((s[k].toNat : Int) ≤ 122) = false := by simp; omega
      have d2 : decide ((s[k].toNat : Int) ≤ 57) = false := by simp; omega
      go_wp2_with fail
      exact bodyPost_ret (v := .bool false) (by simp only [results, Tryz.results48]; go_simp) rfl ⟨by rw [HN2.out], kB⟩
     ·have d2 : decide ((s[k].toNat : Int) ≤ 57) = false := by simp; omega
      go_wp2_with fail
      exact bodyPost_ret (v := .bool false) (by simp only [results, Tryz.results48]; go_simp) rfl ⟨by rw [HN2.out], kB⟩
     ·have d2 : decide (48 ≤ (s[k].toNat : Int)) = false := by simp; omega
      go_wp2_with fail
      exact bodyPost_ret (v := .bool false) (by simp only [results, Tryz.results48]; go_simp) rfl ⟨by rw [HN2.out], kB⟩
   ·obtain rfl : k = s.size := by omega
    have HN2 := Lib.hid (show R = true by
     have := HQ.out
     rw [List.take_of_length_le (by rw [hlen.out]; exact Nat.le_refl _), HR.out] at this
     exact this)
    clear HQ hlt hk
    go_wp2_with fail
    exact bodyPost_ret (v := .bool true) (by simp only [results, Tryz.results48]; go_simp) rfl ⟨by rw [HN2.out], kB⟩
 ·have hnb : nameB s = false := by unfold nameB; rw [decide_eq_false h1, Bool.false_and]
  rw [hnb]
  have h2 : (s.size : Int) < 1 ∨ (1 ≤ (s.size : Int) ∧ 20 < (s.size : Int)) := by omega
  clear h1 hnb
  rcases h2 with h2 | ⟨h2, h3⟩
  all_goals
   go_enter Tryz.func48, Tryz.ntmps48
   go_wp2_with fail
   exact bodyPost_ret (v := .bool false) (by simp only [results, Tryz.results48]; go_simp) rfl ⟨rfl, (by repeat' (first | exact Below.refl _ _ | assumption | apply bDrewN | apply bDrew | apply bAlloc | (refine bSet ?_ ?_ _) | (refine bStep ?_ (by assumption)) | omega | (simp <;> omega)))⟩
end Go.Proofs.YtmpilgkfbibhlaaGreatDoor
namespace Go.Proofs.YtmpilgkfbibhlaaGreatDoor
/-! Texts cut at spaces. -/
theorem take_at {l : List UInt8} {i : Nat} {c : UInt8} (h : l[i]? = some c) : l = l.take i ++ c :: l.drop (i + 1) := by
 obtain ⟨hi, hc⟩ := List.getElem?_eq_some_iff.1 h
 conv => lhs; rw [← List.take_append_drop i l]
 rw [List.drop_eq_getElem_cons hi, hc]
def spl (l : List UInt8) : List (List UInt8) := Lib.splitK [32] 0 (l.count 32) l
/-! Guards. -/
def gW : List UInt8 := [103, 117, 97, 114, 100]
def gZ (L : List Int) : List (List UInt8) := gW :: L.map Lib.itoa
def gTxt (L : List Int) : List UInt8 := Lib.join (gZ L) [32]
open Classical in
noncomputable def parG (ok : List Int → Prop) (l : List UInt8) : Option (List Int) := if h : ∃ L, L.length = 22 ∧ ok L ∧ l = gTxt L then some h.choose else none
section
variable {ok : List Int → Prop} {l : List UInt8}
end
/-! The reference's way: pieces one by one. -/
def VlsP (P : List (List UInt8)) (X : List Int) : Prop := X.length = P.length ∧ ∀ k, k < P.length → isN (P.getD k []) = true → X.getD k 0 = sv (P.getD k [])
theorem VlsP.nil : VlsP [] [] := ⟨rfl, fun k h => absurd h (by simp)⟩
theorem VlsP.snoc {P : List (List UInt8)} {X : List Int} {z : List UInt8} {v : Int} (h : VlsP P X) (hv : isN z = true → v = sv z) : VlsP (P ++ [z]) (X ++ [v]) := by
 obtain ⟨h1, h2⟩ := h
 refine ⟨by simp [h1], fun k hk hN => ?_⟩
 simp only [List.length_append, List.length_cons, List.length_nil] at hk
 by_cases hkl : k < P.length
 ·have e1 : (P ++ [z]).getD k [] = P.getD k [] := by rw [List.getD_eq_getElem?_getD, List.getElem?_append_left hkl, ← List.getD_eq_getElem?_getD]
  have e2 : (X ++ [v]).getD k 0 = X.getD k 0 := by rw [List.getD_eq_getElem?_getD, List.getElem?_append_left (by omega), ← List.getD_eq_getElem?_getD]
  rw [e1] at hN ⊢
  rw [e2]
  exact h2 k hkl hN
 ·obtain rfl : k = P.length := by omega
  have e1 : (P ++ [z]).getD P.length [] = z := by simp [List.getD_eq_getElem?_getD]
  have e2 : (X ++ [v]).getD P.length 0 = v := by rw [← h1]; simp [List.getD_eq_getElem?_getD]
  rw [e1] at hN ⊢
  rw [e2]
  exact hv hN
section
variable {ok : List Int → Prop} {l : List UInt8} {X : List Int}
end
end Go.Proofs.YtmpilgkfbibhlaaGreatDoor
namespace Go.Proofs.YtmpilgkfbibhlaaGreatDoor
open Sx Go.RowKit
def mAt (s : ByteArray) (j : Nat) : Prop := ∃ o : List UInt8, s.data.toList = o ++ 58 :: Lib.itoa (j : Int) ∧ nameB ⟨o.toArray⟩ = true
theorem name_no58 {o : List UInt8} (h : nameB ⟨o.toArray⟩ = true) : ∀ c ∈ o, c ≠ 58 := fun c hc e => by
 unfold nameB at h
 rw [Bool.and_eq_true] at h
 have := List.all_eq_true.1 h.2 c (by simpa using hc)
 subst e
 revert this
 decide
theorem colon_at {s : ByteArray} {o r : List UInt8} (h : s.data.toList = o ++ 58 :: r) (ho : ∀ c ∈ o, c ≠ 58) : colon s = o.length := by
 have h0 : s.data.toList[o.length]? = some 58 := by rw [h]; simp
 unfold colon
 rcases Int.lt_or_le (Lib.indexByte s.data.toList 58) 0 with q | q
 ·have h1 : Lib.indexByte s.data.toList 58 = -1 := by have := Lib.indexByte_ge s.data.toList 58; omega
  exact absurd h0 (Lib.indexByte_none h1 _)
 ·obtain ⟨i, hi⟩ := Int.eq_ofNat_of_zero_le q
  obtain ⟨a1, a2⟩ := Lib.indexByte_some hi
  rw [hi]
  rcases Nat.lt_trichotomy i o.length with c | c | c
  ·exfalso
   rw [h, List.getElem?_append_left c] at a1
   exact ho _ (List.mem_of_getElem? a1) rfl
  ·rw [c]
  ·exact absurd h0 (a2 _ c)
theorem cut_at58 {s : ByteArray} {o r : List UInt8} (h : s.data.toList = o ++ 58 :: r) (ho : ∀ c ∈ o, c ≠ 58) : cutS s = (⟨o.toArray⟩, ⟨r.toArray⟩, true) := by
 have hc := colon_at h ho
 have hsz : s.size = o.length + 1 + r.length := by rw [Lib.size_eq, h]; simp; omega
 have e1 : s.extract 0 o.length = ⟨o.toArray⟩ := ba_inj (by rw [Lib.extract_eq, h]; simp)
 have e2 : s.extract (o.length + 1) s.size = ⟨r.toArray⟩ := ba_inj (by rw [Lib.extract_eq, h, hsz]; simp)
 unfold cutS
 rw [if_pos (by rw [hc]; omega), hc]
 simp only [Int.toNat_natCast]
 rw [e1, e2]
theorem mAt_mod {s : ByteArray} {j : Nat} (hj : j < 32) {o : List UInt8} (h : s.data.toList = o ++ 58 :: Lib.itoa (j : Int)) (hn : nameB ⟨o.toArray⟩ = true) : modB s = true ∧ (cutS s).1 = ⟨o.toArray⟩ := by
 have hc := cut_at58 h (name_no58 hn)
 have hv : numS ⟨(Lib.itoa (j : Int)).toArray⟩ = some (j : Int) := by
  unfold numS
  rw [← Lib.parseIntB_64]
  have e : (ByteArray.mk (Lib.itoa (j : Int)).toArray).data.toList = Lib.itoa (j : Int) := by simp
  rw [e, parse_itoa (by omega) (by omega)]
 refine ⟨?_, by rw [hc]⟩
 unfold modB
 rw [hc]
 dsimp only
 rw [hv]
 have e2 : (ByteArray.mk (Lib.itoa (j : Int)).toArray).toList = Lib.itoa (j : Int) := by rw [Lib.toList_data]
 simp only [Bool.true_and, Bool.and_eq_true, decide_eq_true_eq, beq_iff_eq]
 exact ⟨⟨⟨by omega, by omega⟩, e2.symm⟩, hn⟩
theorem mod_mAt {s : ByteArray} (h : modB s = true) : ∃ j, j < 32 ∧ mAt s j := by
 unfold modB at h
 rw [Bool.and_eq_true] at h
 obtain ⟨h1, h2⟩ := h
 have hc : 0 ≤ colon s := by
  by_cases hc : 0 ≤ colon s
  ·exact hc
  ·unfold cutS at h1; rw [if_neg hc] at h1; cases h1
 have e : cutS s = (s.extract 0 (colon s).toNat, s.extract ((colon s).toNat + 1) s.size, true) := by unfold cutS; rw [if_pos hc]
 rw [e] at h2
 obtain ⟨i, hi⟩ := Int.eq_ofNat_of_zero_le hc
 have hat := (Lib.indexByte_some (l := s.data.toList) (c := 58) (o := i) hi).1
 have hil := (List.getElem?_eq_some_iff.1 hat).1
 rw [hi] at h2
 simp only [Int.toNat_natCast] at h2
 have ea : (s.extract 0 i).data.toList = s.data.toList.take i := by rw [Lib.extract_eq]; simp
 have eb : (s.extract (i + 1) s.size).data.toList = s.data.toList.drop (i + 1) := by
  rw [Lib.extract_eq]
  simp only [List.toList_toArray]
  exact List.take_of_length_le (by rw [List.length_drop, ← Lib.size_eq]; exact Nat.le_refl _)
 cases hn : numS (s.extract (i + 1) s.size) with
 | none => rw [hn] at h2; cases h2
 | some v =>
  rw [hn] at h2
  simp only [Bool.and_eq_true, decide_eq_true_eq, beq_iff_eq] at h2
  obtain ⟨⟨⟨v0, v1⟩, hv⟩, hnm⟩ := h2
  obtain ⟨j, rfl⟩ := Int.eq_ofNat_of_zero_le v0
  rw [Lib.toList_data, eb] at hv
  refine ⟨j, by omega, s.data.toList.take i, ?_, ?_⟩
  ·rw [hv]
   exact take_at hat
  ·have : (⟨(s.data.toList.take i).toArray⟩ : ByteArray) = s.extract 0 i := ba_inj (by rw [ea])
   rw [this]
   exact hnm
def rmO (s : ByteArray) : ByteArray := if modB s = true then (cutS s).1 else ⟨#[]⟩
theorem mAt_iff {s E : ByteArray} {j : Nat} (hE : E.data.toList = 58 :: Lib.itoa (j : Int)) : mAt s j ↔ E.size ≤ s.size ∧ s.extract (s.size - E.size) s.size = E ∧ nameB (s.extract 0 (s.size - E.size)) = true := by
 have hEs : E.size = 1 + (Lib.itoa (j : Int)).length := by rw [Lib.size_eq, hE]; simp; omega
 constructor
 ·rintro ⟨o, h, hn⟩
  have hsz : s.size = o.length + 1 + (Lib.itoa (j : Int)).length := by rw [Lib.size_eq, h]; simp; omega
  have hk : s.size - E.size = o.length := by omega
  refine ⟨by omega, ba_inj ?_, ?_⟩
  ·rw [hk, Lib.extract_eq, h, hsz, hE]
   simp only [List.toList_toArray, List.drop_left]
   exact List.take_of_length_le (by simp; omega)
  ·have : s.extract 0 (s.size - E.size) = ⟨o.toArray⟩ := ba_inj (by rw [hk, Lib.extract_eq, h]; simp)
   rw [this]
   exact hn
 ·rintro ⟨h1, h2, h3⟩
  refine ⟨s.data.toList.take (s.size - E.size), ?_, ?_⟩
  ·have e : (s.extract (s.size - E.size) s.size).data.toList = s.data.toList.drop (s.size - E.size) := by
    rw [Lib.extract_eq]
    simp only [List.toList_toArray]
    exact List.take_of_length_le (by rw [List.length_drop, ← Lib.size_eq]; exact Nat.le_refl _)
   rw [h2] at e
   rw [← hE, e, List.take_append_drop]
  ·have : (⟨(s.data.toList.take (s.size - E.size)).toArray⟩ : ByteArray) = s.extract 0 (s.size - E.size) := ba_inj (by rw [Lib.extract_eq]; simp)
   rw [this]
   exact h3
theorem rmO_yes {s E : ByteArray} {j : Nat} (hj : j < 32) (hE : E.data.toList = 58 :: Lib.itoa (j : Int)) (h : mAt s j) : modB s = true ∧ rmO s = s.extract 0 (s.size - E.size) := by
 obtain ⟨o, h1, h2⟩ := h
 have q := mAt_mod hj h1 h2
 have hsz : s.size = o.length + 1 + (Lib.itoa (j : Int)).length := by rw [Lib.size_eq, h1]; simp; omega
 have hEs : E.size = 1 + (Lib.itoa (j : Int)).length := by rw [Lib.size_eq, hE]; simp; omega
 refine ⟨q.1, ?_⟩
 unfold rmO
 rw [if_pos q.1, q.2]
 exact (ba_inj (by rw [show s.size - E.size = o.length by omega, Lib.extract_eq, h1]; simp)).symm
theorem rmO_no {s : ByteArray} (h : ∀ j, j < 32 → ¬ mAt s j) : modB s = false ∧ rmO s = ⟨#[]⟩ := by
 have hm : modB s = false := by
  cases hm : modB s with
  | false => rfl
  | true =>
   obtain ⟨j, hj, q⟩ := mod_mAt hm
   exact absurd q (h j hj)
 exact ⟨hm, by unfold rmO; rw [if_neg (by rw [hm]; decide)]⟩
set_option maxHeartbeats 2000000 in
set_option maxRecDepth 20000 in
theorem RModule_any (s : ByteArray) (w : World) (hs : s.size ≤ 1000000) : Calls Tryz.prog 81 #[.string s] w fun e w' => e = .returned (.tuple #[.string (rmO s), .bool (modB s)]) ∧ Below w.heap.size w w' := by
 go_enter Tryz.func81, Tryz.ntmps81
 go_wp2_with fail
 go_loopw [4, 5, 6] (fun i _ _ wr => ∃ k : Nat, k ≤ 32 ∧ i = .int .i64 k ∧ Hid (∀ j, j < k → ¬ mAt s j) ∧ Below w.heap.size w wr) (fun i _ _ _ => 32 - (intOf i).toNat)
 case atStart => exact ⟨0, by omega, rfl, (fun j hj => absurd hj (by omega)), (by repeat' (first | exact Below.refl _ _ | assumption | apply bDrewN | apply bDrew | apply bAlloc | (refine bSet ?_ ?_ _) | (refine bStep ?_ (by assumption)) | omega | (simp <;> omega)))⟩
 case round =>
  obtain ⟨k, hk, rfl, HQ, kB⟩ := hrel
  have i1 : (0 : Int) ≤ (k : Int) := by omega
  by_cases hlt : k < 32
  ·have hlt3 : (k : Int) < 32 := by omega
   have CD := Lib.hid (fun W => Digits_any (k : Int) (by omega) (by omega) W)
   have hl : (Lib.itoa (k : Int)).length ≤ 3 := itoa_len (k := 2) (by omega) (by omega) (by decide)
   obtain ⟨E, hEd⟩ : ∃ E : ByteArray, (⟨#[58]⟩ : ByteArray) ++ ⟨(Lib.itoa (k : Int)).toArray⟩ = E := ⟨_, rfl⟩
   have hE : E.data.toList = 58 :: Lib.itoa (k : Int) := by rw [← hEd]; simp
   have hEs : E.size = 1 + (Lib.itoa (k : Int)).length := by rw [Lib.size_eq, hE]; simp; omega
   have ht1 : (ByteArray.mk (Lib.itoa (k : Int)).toArray).size ≤ 3 := by rw [Lib.size_eq]; simpa using hl
   have HI := Lib.hid (mAt_iff (s := s) (E := E) (j := k) hE)
   have HY := Lib.hid (fun h => rmO_yes (s := s) (E := E) (j := k) hlt hE h)
   have HNX := Lib.hid (show ¬ mAt s k → ∀ j, j < k + 1 → ¬ mAt s j from fun h j hj => by
    by_cases c : j = k
    ·subst c; exact h
    ·exact HQ.out j (by omega))
   have hE4 : E.size ≤ 4 := by omega
   clear hE hEs hl HQ
   generalize (ByteArray.mk (Lib.itoa (k : Int)).toArray) = t1 at *
   have m1 : ¬ 9223372036854775807 < 1 + t1.size := by omega
   by_cases hsz : E.size ≤ s.size
   ·have hd1 : ((s.size : Int) - (E.size : Int)) = ((s.size - E.size : Nat) : Int) := by omega
    have hdk : s.size - E.size ≤ s.size := by omega
    have CN := Lib.hid (fun W => RName_any (s.extract 0 (s.size - E.size)) W)
    generalize hdd : s.size - E.size = d at *
    have d0 : (0 : Int) ≤ (d : Int) := by omega
    have d1 : (d : Int) ≤ (s.size : Int) := by omega
    by_cases heq : s.extract d s.size = E
    ·by_cases hnm : nameB (s.extract 0 d) = true
     ·obtain ⟨y1, y2⟩ := HY.out (HI.out.2 ⟨hsz, heq, hnm⟩)
      rw [hnm] at CN
      have Y1 := Lib.hid y1
      have Y2 := Lib.hid y2
      clear HI HY HNX hnm hdd y1 y2 ht1 hE4
      go_wp2_with (first | (go_at_call 123; refine (CD.out _).mono ?_; rintro e w3 ⟨rfl, hb3⟩; have k3 := bStep kB hb3) | (go_at_call 48; refine (CN.out _).mono ?_; rintro e w4 ⟨rfl, hb4⟩; have k4 := bStep k3 hb4))
      exact bodyPost_ret (v := .tuple #[.string (s.extract 0 d), .bool true]) (by simp only [results, Tryz.results81]; go_simp) rfl ⟨by rw [Y1.out, Y2.out], k4⟩
     ·have HN2 := Lib.hid (HNX.out (fun h => hnm (HI.out.1 h).2.2))
      have hnf : nameB (s.extract 0 d) = false := by simpa using hnm
      rw [hnf] at CN
      clear HI HY HNX hnm hnf hdd ht1 hE4
      go_wp2_with (first | (go_at_call 123; refine (CD.out _).mono ?_; rintro e w3 ⟨rfl, hb3⟩; have k3 := bStep kB hb3) | (go_at_call 48; refine (CN.out _).mono ?_; rintro e w4 ⟨rfl, hb4⟩; have k4 := bStep k3 hb4))
      go_roundw
      case rel => first | exact ⟨k + 1, by omega, by push_cast; rfl, HN2, k4⟩ | ((repeat apply Exists.intro); exact ⟨⟨k + 1, by omega, by push_cast; rfl, HN2, k4⟩, rfl⟩)
      case measure => (simp [intOf]; omega)
    ·have HN2 := Lib.hid (HNX.out (fun h => heq (HI.out.1 h).2.1))
     have hb0 := ba_nl heq
     have hb1 : ((s.extract d s.size).toList == E.toList) = false := by simpa using hb0
     clear HI HY HNX hdd ht1 hE4
     go_wp2_with (first | (go_at_call 123; refine (CD.out _).mono ?_; rintro e w3 ⟨rfl, hb3⟩; have k3 := bStep kB hb3) | (go_at_call 48; refine (CN.out _).mono ?_; rintro e w4 ⟨rfl, hb4⟩; have k4 := bStep k3 hb4))
     go_roundw
     case rel => first | exact ⟨k + 1, by omega, by push_cast; rfl, HN2, k3⟩ | ((repeat apply Exists.intro); exact ⟨⟨k + 1, by omega, by push_cast; rfl, HN2, k3⟩, rfl⟩)
     case measure => (simp [intOf]; omega)
   ·have HN2 := Lib.hid (HNX.out (fun h => hsz (HI.out.1 h).1))
    have hneg : ¬ (0 : Int) ≤ (s.size : Int) - (E.size : Int) := by omega
    clear HI HY HNX ht1 hsz
    go_wp2_with (first | (go_at_call 123; refine (CD.out _).mono ?_; rintro e w3 ⟨rfl, hb3⟩; have k3 := bStep kB hb3) | fail)
    go_roundw
    case rel => first | exact ⟨k + 1, by omega, by push_cast; rfl, HN2, k3⟩ | ((repeat apply Exists.intro); exact ⟨⟨k + 1, by omega, by push_cast; rfl, HN2, k3⟩, rfl⟩)
    case measure => (simp [intOf]; omega)
  ·obtain rfl : k = 32 := by omega
   have HN2 := Lib.hid (rmO_no HQ.out)
   clear HQ hlt hk
   go_wp2_with fail
   exact bodyPost_ret (v := .tuple #[.string ⟨#[]⟩, .bool false]) (by simp only [results, Tryz.results81]; go_simp) rfl ⟨by rw [HN2.out.1, HN2.out.2], kB⟩
end Go.Proofs.YtmpilgkfbibhlaaGreatDoor
