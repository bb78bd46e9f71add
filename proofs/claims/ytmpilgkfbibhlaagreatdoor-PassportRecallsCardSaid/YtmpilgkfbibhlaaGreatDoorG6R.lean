/-
 can: the map of rules.
-/
import Derived.Test.YtmpilgkfbibhlaaGreatDoorG5R
import Derived.Test.YtmpilgkfbibhlaaGreatDoorG0R
import Derived.Test.YtmpilgkfbibhlaaGreatDoorG4R
import Derived.Deep.Cut
set_option linter.unusedSimpArgs false
set_option linter.unusedVariables false
namespace Go.Proofs.YtmpilgkfbibhlaaGreatDoor
open Go.RowKit Mr
theorem can_boxes {B off q : Nat} {k t a b : Int} {nm ot : ByteArray} {w : World} :
  CanB w.heap.size (w.heap.size + 1) B off k t a b nm ot (((w.alloc (.cells #[.pointer (some ⟨B, off, none⟩)] 91)).alloc (.cells #[.int .i64 k, .int .i64 t, .int .i64 a, .int .i64 b, .string nm, .string ot] 29)).drewN q) ∧
  Below w.heap.size w (((w.alloc (.cells #[.pointer (some ⟨B, off, none⟩)] 91)).alloc (.cells #[.int .i64 k, .int .i64 t, .int .i64 a, .int .i64 b, .string nm, .string ot] 29)).drewN q) := by
 refine ⟨⟨?_, ?_, ?_, ?_, ?_, ?_⟩, ?_⟩
 ·go_simp
 ·go_simp
 ·go_simp
 ·go_simp
 ·show w.heap.size < ((w.alloc _).alloc _).heap.size; simp; omega
 ·show w.heap.size + 1 < ((w.alloc _).alloc _).heap.size; simp
 ·exact bDrewN (bAlloc (bAlloc (Below.refl _ _) _) _)
def ruleEs (bx be : Nat) : Array MapEntry := #[
 {key := .int .i64 1, val := .func (.func 97) #[] #[], born := 0 },
 {key := .int .i64 5, val := .func (.func 98) #[] #[.pointer (some ⟨bx, 0, none⟩), .pointer (some ⟨be, 0, none⟩)], born := 1 },
 {key := .int .i64 6, val := .func (.func 100) #[] #[.pointer (some ⟨bx, 0, none⟩), .pointer (some ⟨be, 0, none⟩)], born := 2 },
 {key := .int .i64 7, val := .func (.func 101) #[] #[.pointer (some ⟨bx, 0, none⟩), .pointer (some ⟨be, 0, none⟩)], born := 3 },
 {key := .int .i64 8, val := .func (.func 102) #[] #[.pointer (some ⟨bx, 0, none⟩), .pointer (some ⟨be, 0, none⟩)], born := 4 },
 {key := .int .i64 9, val := .func (.func 103) #[] #[.pointer (some ⟨bx, 0, none⟩)], born := 5 }]
set_option maxHeartbeats 4000000 in
set_option maxRecDepth 20000 in
theorem can_rule {T : TypeId} {B off : Nat} {name : ByteArray} {x : LifeS} {vm vo : Value} {w : World} (h : LifeAt T B off name x vm vo w) (hn : ¬ x.n = 0) (k t a b : Int) (nm ot : ByteArray) (hk : 1 ≤ k ∧ k ≤ 9) (ht : ¬ t < x.at_) (hs : x.scr = false) (hl1 : x.ms.length ≤ 1000000) (hl2 : x.os.length ≤ 1000000) :
  Calls Tryz.prog 43 #[.pointer (some ⟨B, off, none⟩), .agg #[.int .i64 k, .int .i64 t, .int .i64 a, .int .i64 b, .string nm, .string ot]] w fun e w' => e = .returned (.bool (ruleB name x.ms x.os (k, t, a, b, nm, ot))) ∧ Below w.heap.size w w' := by
 obtain ⟨c0, c1, c2, c9, c10, c17, cl⟩ := h.open1
 have hn2 : ((x.n : Int) == 0) = false := by simpa using hn
 rw [hs] at c17
 have ht2 : decide (t < x.at_) = false := decide_eq_false ht
 have H := Lib.hid h
 have HL := Lib.hid (And.intro hl1 hl2)
 have HK := Lib.hid hk
 clear h hn hs ht hl1 hl2 hk
 go_enter Tryz.func43, Tryz.ntmps43
 go_upto_region 3 with fail
 go_quiet (fail)
 go_upto_region 5 with fail
 have HB := Lib.hid (can_boxes (B := B) (off := off) (q := nq) (k := k) (t := t) (a := a) (b := b) (nm := nm) (ot := ot) (w := w))
 replace H := Lib.hid (H.out.step HB.out.2)
 clear c0 c1 c2 c9 c10 c17 cl hn2 ht2
 generalize (((w.alloc _).alloc _).drewN nq) = W1 at *
 generalize w.heap.size + 1 = be at *
 generalize hbx : w.heap.size = bx at *
 have HX := Lib.hid hbx
 clear hbx
 have HM := Lib.hid (blk_new W1 (.map #[] 0))
 have HW := Lib.hid (bAl (W := W1) (o := .map #[] 0))
 have hmm := @run_makeMap Tryz.prog
 go_upto_region 6 with ((with_reducible apply wpList_insert2); (case hb => exact HM.out); (case ht => exact Tryz.underlying164); (case hk => exact Tryz.underlying3); (case hm => rfl); (case hx => rfl); (case hv => rfl); (case h => rfl); intro w9 hm9 hg9; replace HW := Lib.hid (HW.out.grown hg9 HW.out.size (by intro k e; cases e; exact Nat.le_refl _)); replace HM := Lib.hid hm9; clear hm9 hg9)
 have HM2 : Hid (w9.heap[W1.heap.size]? = some (.map (ruleEs bx be) 6)) := HM.out
 clear HM hmm
 have HC := Lib.hid (HB.out.1.step HW.out)
 replace H := Lib.hid (H.out.step HW.out)
 have HD : Hid (Below w.heap.size w w9) := bStep (by rw [HX.out]; exact HB.out.2) HW.out
 clear HB HX HW
 have e0 := HC.out.e0
 have l2 := HC.out.l2
 have hk := HK.out
 have hc : k = 1 ∨ k = 2 ∨ k = 3 ∨ k = 4 ∨ k = 5 ∨ k = 6 ∨ k = 7 ∨ k = 8 ∨ k = 9 := by omega
 clear hk HK
 rcases hc with rfl | rfl | rfl | rfl | rfl | rfl | rfl | rfl | rfl
 ·have hl := run_look (key := .int .i64 1) (i := 0) (val := .func (.func 97) #[] #[]) Tryz.underlying164 Tryz.underlying3 HM2.out (by rfl)
  have CC := Lib.hid (can1_any w9)
  clear HM2
  go_wp2_with (go_at_call 97; refine CC.out.mono ?_; rintro e w10 ⟨rfl, hb10⟩)
  exact bodyPost_ret (v := .bool false) (by simp only [results, Tryz.results43]; go_simp) rfl ⟨by simp [ruleB], bStep HD.out hb10⟩
 ·have hl := run_look_no (key := .int .i64 2) Tryz.underlying164 Tryz.underlying3 HM2.out (by rfl) (Tryz.zeroValue26 w9)
  clear HM2
  go_wp2_with fail
  exact bodyPost_ret (v := .bool true) (by simp only [results, Tryz.results43]; go_simp) rfl ⟨by simp [ruleB], HD.out⟩
 ·have hl := run_look_no (key := .int .i64 3) Tryz.underlying164 Tryz.underlying3 HM2.out (by rfl) (Tryz.zeroValue26 w9)
  clear HM2
  go_wp2_with fail
  exact bodyPost_ret (v := .bool true) (by simp only [results, Tryz.results43]; go_simp) rfl ⟨by simp [ruleB], HD.out⟩
 ·have hl := run_look_no (key := .int .i64 4) Tryz.underlying164 Tryz.underlying3 HM2.out (by rfl) (Tryz.zeroValue26 w9)
  clear HM2
  go_wp2_with fail
  exact bodyPost_ret (v := .bool true) (by simp only [results, Tryz.results43]; go_simp) rfl ⟨by simp [ruleB], HD.out⟩
 ·have hl := run_look (key := .int .i64 5) (i := 1) (val := .func (.func 98) #[] #[.pointer (some ⟨bx, 0, none⟩), .pointer (some ⟨be, 0, none⟩)]) Tryz.underlying164 Tryz.underlying3 HM2.out (by rfl)
  have CC := Lib.hid (can2_any H.out bx be 5 t a b nm ot HC.out HL.out.1)
  clear HM2
  go_wp2_with (go_at_call 98; refine CC.out.mono ?_; rintro e w10 ⟨rfl, hb10⟩)
  exact bodyPost_ret (v := .bool (!(hasT x.ms nm) && decide (x.ms.length < 32) && !(eqT ot name))) (by simp only [results, Tryz.results43]; go_simp) rfl ⟨by simp [ruleB], bStep HD.out hb10⟩
 ·have hl := run_look (key := .int .i64 6) (i := 2) (val := .func (.func 100) #[] #[.pointer (some ⟨bx, 0, none⟩), .pointer (some ⟨be, 0, none⟩)]) Tryz.underlying164 Tryz.underlying3 HM2.out (by rfl)
  have CC := Lib.hid (can3_any H.out bx be 6 t a b nm ot HC.out HL.out.1)
  clear HM2
  go_wp2_with (go_at_call 100; refine CC.out.mono ?_; rintro e w10 ⟨rfl, hb10⟩)
  exact bodyPost_ret (v := .bool (hasT x.ms nm && !(eqT ot name))) (by simp only [results, Tryz.results43]; go_simp) rfl ⟨by simp [ruleB], bStep HD.out hb10⟩
 ·have hl := run_look (key := .int .i64 7) (i := 3) (val := .func (.func 101) #[] #[.pointer (some ⟨bx, 0, none⟩), .pointer (some ⟨be, 0, none⟩)]) Tryz.underlying164 Tryz.underlying3 HM2.out (by rfl)
  have CC := Lib.hid (can4_any H.out bx be 7 t a b nm ot HC.out HL.out.2)
  clear HM2
  go_wp2_with (go_at_call 101; refine CC.out.mono ?_; rintro e w10 ⟨rfl, hb10⟩)
  exact bodyPost_ret (v := .bool (!(hasT x.os nm))) (by simp only [results, Tryz.results43]; go_simp) rfl ⟨by simp [ruleB], bStep HD.out hb10⟩
 ·have hl := run_look (key := .int .i64 8) (i := 4) (val := .func (.func 102) #[] #[.pointer (some ⟨bx, 0, none⟩), .pointer (some ⟨be, 0, none⟩)]) Tryz.underlying164 Tryz.underlying3 HM2.out (by rfl)
  have CC := Lib.hid (can5_any H.out bx be 8 t a b nm ot HC.out HL.out.2)
  clear HM2
  go_wp2_with (go_at_call 102; refine CC.out.mono ?_; rintro e w10 ⟨rfl, hb10⟩)
  exact bodyPost_ret (v := .bool (hasT x.os nm)) (by simp only [results, Tryz.results43]; go_simp) rfl ⟨by simp [ruleB], bStep HD.out hb10⟩
 ·have hl := run_look (key := .int .i64 9) (i := 5) (val := .func (.func 103) #[] #[.pointer (some ⟨bx, 0, none⟩)]) Tryz.underlying164 Tryz.underlying3 HM2.out (by rfl)
  have CC := Lib.hid (can6_any H.out bx be 9 t a b nm ot HC.out )
  clear HM2
  go_wp2_with (go_at_call 103; refine CC.out.mono ?_; rintro e w10 ⟨rfl, hb10⟩)
  exact bodyPost_ret (v := .bool (decide (x.ms = []))) (by simp only [results, Tryz.results43]; go_simp) rfl ⟨by simp [ruleB], bStep HD.out hb10⟩
theorem can_any {T : TypeId} {B off : Nat} {name : ByteArray} {x : LifeS} {vm vo : Value} {w : World} (h : LifeAt T B off name x vm vo w) (e : Evt) (hk : 1 ≤ e.1 ∧ e.1 ≤ 9) (hl1 : x.ms.length ≤ 1000000) (hl2 : x.os.length ≤ 1000000) :
  Calls Tryz.prog 43 #[.pointer (some ⟨B, off, none⟩), evX e] w fun en w' => en = .returned (.bool (canP name x e)) ∧ Below w.heap.size w w' := by
 obtain ⟨k, t, a, b, nm, ot⟩ := e
 unfold canP
 by_cases hn : x.n = 0
 ·rw [if_pos hn]; exact can_first h hn k t a b nm ot
 ·rw [if_neg hn]
  by_cases ht : t < x.at_
  ·rw [if_pos ht]; exact can_late h hn k t a b nm ot (Or.inl ht)
  ·rw [if_neg ht]
   by_cases hs : x.scr = true
   ·rw [if_pos hs]; exact can_late h hn k t a b nm ot (Or.inr ⟨ht, hs⟩)
   ·rw [if_neg hs]; exact can_rule h hn k t a b nm ot hk ht (by simpa using hs) hl1 hl2
end Go.Proofs.YtmpilgkfbibhlaaGreatDoor
namespace Go.Proofs.YtmpilgkfbibhlaaGreatDoor
open Go.RowKit Mr
structure OnlyB (T : TypeId) (B off n : Nat) (w W : World) : Prop where
 os : W.os = w.os
 tape : W.tape = w.tape
 output : W.output = w.output
 size : w.heap.size ≤ W.heap.size
 lt : B < w.heap.size
 block : ∀ k, k < w.heap.size → k ≠ B → W.heap[k]? = w.heap[k]?
 cells : ∃ cs cs' : Array Value, w.heap[B]? = some (.cells cs T (0, 0)) ∧ W.heap[B]? = some (.cells cs' T (0, 0)) ∧ cs'.size = cs.size ∧ ∀ i, (i < off ∨ off + n ≤ i) → cs'[i]? = cs[i]?
section
variable {T : TypeId} {B off n : Nat} {w W w2 : World}
theorem OnlyB.start {cs : Array Value} (h : w.heap[B]? = some (.cells cs T (0, 0))) : OnlyB T B off n w w :=
 ⟨rfl, rfl, rfl, Nat.le_refl _, blk_lt h, fun _ _ _ => rfl, cs, cs, h, h, rfl, fun _ _ => rfl⟩
theorem OnlyB.step (h : OnlyB T B off n w W) (hb : Below W.heap.size W w2) : OnlyB T B off n w w2 := by
 obtain ⟨cs, cs', h1, h2, h3, h4⟩ := h.cells
 exact ⟨hb.os.trans h.os, hb.tape.trans h.tape, hb.output.trans h.output, Nat.le_trans h.size hb.size, h.lt, fun k hk hn => (hb.block k (Nat.lt_of_lt_of_le hk h.size)).trans (h.block k hk hn), cs, cs', h1, blk_step h2 hb, h3, h4⟩
theorem OnlyB.set (h : OnlyB T B off n w W) {j : Nat} (hj : j < n) (u : Value) : OnlyB T B off n w (W.setCell ⟨B, off + j, none⟩ u) := by
 obtain ⟨cs, cs', h1, h2, h3, h4⟩ := h.cells
 refine ⟨h.os, h.tape, h.output, by simpa using h.size, h.lt, fun k hk hn => ?_, cs, cs'.setIfInBounds (off + j) u, h1, blk_set h2, by simpa using h3, fun i hi => ?_⟩
 ·rw [Below.heap_setCell _ _ _ _ hn]; exact h.block k hk hn
 ·rw [Array.getElem?_setIfInBounds, if_neg (by omega)]; exact h4 i hi
theorem OnlyB.grown {g : Option Nat} (h : OnlyB T B off n w W) (hg : W.grownBy w2 g) (hr : ∀ k, g = some k → w.heap.size ≤ k) : OnlyB T B off n w w2 := by
 obtain ⟨cs, cs', h1, h2, h3, h4⟩ := h.cells
 have hk : ∀ k, k < w.heap.size → some k ≠ g := fun k hk e => by have := hr k e.symm; omega
 exact ⟨hg.os.trans h.os, hg.tape.trans h.tape, hg.output.trans h.output, Nat.le_trans h.size hg.size, h.lt, fun k hk1 hn => (hg.block k (Nat.lt_of_lt_of_le hk1 h.size) (hk k hk1)).trans (h.block k hk1 hn), cs, cs', h1, (hg.block B (blk_lt h2) (hk B h.lt)).trans h2, h3, h4⟩
theorem SRow.only {v : Value} {l : List ByteArray} (h : SRow v l w) (ho : OnlyB T B off n w W) (hT : T ≠ 9) : SRow v l W := h.keep fun b cs fr e => ho.block b (blk_lt e) (fun c => by
 subst c
 obtain ⟨cs1, cs2, h1, -⟩ := ho.cells
 rw [h1] at e
 simp at e
 exact hT e.2.1)
end
def NewV (w : World) (v v' : Value) : Prop := v' = v ∨ ∀ k, v'.ownBlock = some k → w.heap.size ≤ k
theorem NewV.mono {w W : World} {v v' : Value} (h : NewV W v v') (hs : w.heap.size ≤ W.heap.size) : NewV w v v' := h.imp id fun h k hk => Nat.le_trans hs (h k hk)
theorem NewV.of_own {w W : World} {E sz n : Nat} {v v' : Value} {xs : List Value} (h : W.ownsRow w.heap.size E sz v' n xs) : NewV w v v' := Or.inr fun k hk => (World.ownsRow.lt h k hk).1
structure LifeF (w : World) (T : TypeId) (B off : Nat) (name : ByteArray) (x : LifeS) (vm vo vm' vo' : Value) (W : World) : Prop where
 l : LifeAt T B off name x vm' vo' W
 m : NewV w vm vm'
 o : NewV w vo vo'
structure AddC (T : TypeId) (B off : Nat) (name : ByteArray) (w : World) (be : Nat) (e : Evt) (x : LifeS) (vm vo : Value) (W : World) : Prop where
 blk : ∃ cs : Array Value, W.heap[B]? = some (.cells cs T (0, 0)) ∧ off + 18 ≤ cs.size ∧ ∀ (j : Nat) (u : Value), (lifeCs name x vm vo)[j]? = some u → cs[off + j]? = some u
 only : OnlyB T B off 18 w W
 box : W.heap[be]? = some (.cells #[.int .i64 e.1, .int .i64 e.2.1, .int .i64 e.2.2.1, .int .i64 e.2.2.2.1, .string e.2.2.2.2.1, .string e.2.2.2.2.2] 29 (0, 0))
 hbe : w.heap.size ≤ be
section
variable {T : TypeId} {B off be : Nat} {name : ByteArray} {w W w2 : World} {e : Evt} {x x' : LifeS} {vm vo vm' vo' : Value}
theorem AddC.ne (h : AddC T B off name w be e x vm vo W) : be ≠ B := by have := h.only.lt; have := h.hbe; omega
theorem AddC.step (h : AddC T B off name w be e x vm vo W) (hb : Below W.heap.size W w2) : AddC T B off name w be e x vm vo w2 := by
 obtain ⟨⟨cs, h1, h2, h3⟩, h4, h5, h6⟩ := h
 exact ⟨⟨cs, blk_step h1 hb, h2, h3⟩, h4.step hb, blk_step h5 hb, h6⟩
theorem AddC.set (h : AddC T B off name w be e x vm vo W) {j : Nat} (u : Value) (hj : j < 18) (hcs : lifeCs name x' vm' vo' = (lifeCs name x vm vo).set j u) : AddC T B off name w be e x' vm' vo' (W.setCell ⟨B, off + j, none⟩ u) := by
 have hne := h.ne
 obtain ⟨⟨cs, h1, h2, h3⟩, h4, h5, h6⟩ := h
 refine ⟨⟨cs.setIfInBounds (off + j) u, blk_set h1, by simpa using h2, fun i v hi => ?_⟩, h4.set hj u, blk_set_other h5 hne, h6⟩
 rw [hcs, List.getElem?_set] at hi
 rw [Array.getElem?_setIfInBounds]
 by_cases c : j = i
 ·subst c
  rw [if_pos rfl] at hi
  split at hi
  ·rw [if_pos rfl, if_pos (by omega)]; exact hi
  ·cases hi
 ·rw [if_neg c] at hi
  rw [if_neg (by omega)]
  exact h3 i v hi
theorem AddC.grown {g : Option Nat} (h : AddC T B off name w be e x vm vo W) (hg : W.grownBy w2 g) (hr : ∀ k, g = some k → w.heap.size ≤ k ∧ k ≠ be) : AddC T B off name w be e x vm vo w2 := by
 have hl := h.only.lt
 obtain ⟨⟨cs, h1, h2, h3⟩, h4, h5, h6⟩ := h
 refine ⟨⟨cs, (hg.block B (blk_lt h1) fun c => ?_).trans h1, h2, h3⟩, h4.grown hg fun k hk => (hr k hk).1, (hg.block be (blk_lt h5) fun c => ?_).trans h5, h6⟩
 ·have := (hr B c.symm).1; omega
 ·exact (hr be c.symm).2 rfl
theorem AddC.cell (h : AddC T B off name w be e x vm vo W) {j : Nat} {u : Value} (hj : (lifeCs name x vm vo)[j]? = some u) : W.cell? ⟨B, off + j, none⟩ = some u := by
 obtain ⟨⟨cs, h1, h2, h3⟩, h4, h5, h6⟩ := h
 exact blk_cell h1 (h3 j u hj)
theorem AddC.free (h : AddC T B off name w be e x vm vo W) (j : Nat) : W.frozen? ⟨B, off + j, none⟩ = false := by
 obtain ⟨⟨cs, h1, h2, h3⟩, h4, h5, h6⟩ := h
 exact blk_free h1
theorem AddC.lt (h : AddC T B off name w be e x vm vo W) : B < W.heap.size := by
 obtain ⟨⟨cs, h1, h2, h3⟩, h4, h5, h6⟩ := h
 exact blk_lt h1
theorem AddC.ev (h : AddC T B off name w be e x vm vo W) : W.cell? ⟨be, 0, none⟩ = some (.int .i64 e.1) ∧ W.cell? ⟨be, 1, none⟩ = some (.int .i64 e.2.1) ∧ W.cell? ⟨be, 2, none⟩ = some (.int .i64 e.2.2.1) ∧ W.cell? ⟨be, 3, none⟩ = some (.int .i64 e.2.2.2.1) ∧ W.cell? ⟨be, 4, none⟩ = some (.string e.2.2.2.2.1) ∧ W.cell? ⟨be, 5, none⟩ = some (.string e.2.2.2.2.2) ∧ be < W.heap.size :=
 ⟨blk_cell h.box rfl, blk_cell h.box rfl, blk_cell h.box rfl, blk_cell h.box rfl, blk_cell h.box rfl, blk_cell h.box rfl, blk_lt h.box⟩
theorem AddC.done (h : AddC T B off name w be e x vm vo W) (hm : SRow vm x.ms W) (ho : SRow vo x.os W) : LifeAt T B off name x vm vo W := by
 obtain ⟨⟨cs, h1, h2, h3⟩, h4, h5, h6⟩ := h
 exact ⟨⟨cs, h1, h3⟩, hm, ho⟩
end
end Go.Proofs.YtmpilgkfbibhlaaGreatDoor
namespace Go.Proofs.YtmpilgkfbibhlaaGreatDoor
open Go.RowKit Mr
structure LifeB (x : LifeS) : Prop where
 n : x.n ≤ 100000
 thr : 0 ≤ x.thr ∧ x.thr ≤ 100000 * 1099511627776
 hot : 0 ≤ x.hot ∧ x.hot ≤ 100000 * 1099511627776
 fau : 0 ≤ x.fau ∧ x.fau ≤ 100000
 mov : 0 ≤ x.mov ∧ x.mov ≤ 100000
structure RmS (C : Bool → World → Prop) (val : Value) (b0 b1 : Bool) (v0 : Value) (W : World) : Prop where
 s : C b1 W
 v : b0 = true → v0 = val
 n : b0 = false → b1 = false
theorem add_start {T : TypeId} {B off : Nat} {name : ByteArray} {x : LifeS} {vm vo : Value} {w : World} (h : LifeAt T B off name x vm vo w) (k t a b : Int) (nm ot : ByteArray) :
  AddC T B off name w w.heap.size (k, t, a, b, nm, ot) x vm vo (w.alloc (.cells #[.int .i64 k, .int .i64 t, .int .i64 a, .int .i64 b, .string nm, .string ot] 29)) := by
 obtain ⟨⟨cs, h1, h2⟩, h3, h4⟩ := h
 have h17 := (Array.getElem?_eq_some_iff.1 (h2 17 _ rfl)).1
 exact ⟨⟨cs, blk_step h1 bAl, by omega, h2⟩, (OnlyB.start h1).step bAl, blk_new w _, Nat.le_refl _⟩
set_option maxHeartbeats 4000000 in
set_option maxRecDepth 20000 in
theorem add9_any {T : TypeId} {B off : Nat} {name : ByteArray} {x : LifeS} {vm vo : Value} {w : World} (hT : T ≠ 9) (h : LifeAt T B off name x vm vo w) (hB : LifeB x) (t a b : Int) (nm ot : ByteArray) :
  Calls Tryz.prog 46 #[.pointer (some ⟨B, off, none⟩), .agg #[.int .i64 9, .int .i64 t, .int .i64 a, .int .i64 b, .string nm, .string ot]] w fun en w' => en = .returned (.tuple #[]) ∧ ∃ vm' vo', LifeF w T B off name (x.add name (9, t, a, b, nm, ot)) vm vo vm' vo' w' ∧ OnlyB T B off 18 w w' := by
 have A0 := Lib.hid (add_start h 9 t a b nm ot)
 have HR := Lib.hid (And.intro h.ms h.os)
 have HB := Lib.hid hB
 have hn := hB.n
 have hw1 : IntKind.i64.wrap ((x.n : Int) + 1) = (x.n : Int) + 1 := Go.IntWalk.i64_in _ ⟨by omega, by omega⟩
 clear h hB hn
 go_enter Tryz.func46, Tryz.ntmps46
 go_upto_region 1 with fail
 generalize (w.alloc _) = W0 at *
 have c1 := A0.out.cell (j := 1) rfl
 have f1 := A0.out.free 1
 have lB := A0.out.lt
 go_upto_region 2 with fail
 have A1 : Hid (AddC T B off name w w.heap.size (9, t, a, b, nm, ot) {x with n := x.n + 1} vm vo (W0.setCell ⟨B, off + 1, none⟩ (.int .i64 ((x.n : Int) + 1)))) := A0.out.set (j := 1) (.int .i64 ((x.n : Int) + 1)) (by decide) rfl
 generalize (W0.setCell ⟨B, off + 1, none⟩ _) = W1 at *
 clear A0 c1 f1 lB hw1
 obtain ⟨e0, e1, e2, e3, e4, e5, el⟩ := A1.out.ev
 have c2 := A1.out.cell (j := 2) rfl
 have f2 := A1.out.free 2
 have lB := A1.out.lt
 go_upto_region 3 with fail
 have A2 : Hid (AddC T B off name w w.heap.size (9, t, a, b, nm, ot) {x with n := x.n + 1, at_ := t} vm vo (W1.setCell ⟨B, off + 2, none⟩ (.int .i64 t))) := A1.out.set (j := 2) (.int .i64 t) (by decide) rfl
 generalize (W1.setCell ⟨B, off + 2, none⟩ _) = W2 at *
 clear A1 c2 f2 lB e0 e1 e2 e3 e4 e5 el
 obtain ⟨e0, e1, e2, e3, e4, e5, el⟩ := A2.out.ev
 have lB := A2.out.lt
 have c := A2.out.cell (j := 17) rfl
 have f := A2.out.free 17
 go_wp2_with fail
 have A3 : Hid (AddC T B off name w w.heap.size (9, t, a, b, nm, ot) {x with n := x.n + 1, at_ := t, scr := true} vm vo (W2.setCell ⟨B, off + 17, none⟩ (.bool true))) := A2.out.set (j := 17) (.bool true) (by decide) rfl
 refine bodyPost_end (results_none rfl _ _ _) rfl ?_
 first | exact ⟨rfl, ⟨vm, vo, ⟨A3.out.done (HR.out.1.only A3.out.only hT) (HR.out.2.only A3.out.only hT), Or.inl rfl, Or.inl rfl⟩⟩, A3.out.only⟩ | exact ⟨rfl, vm, vo, ⟨A3.out.done (HR.out.1.only A3.out.only hT) (HR.out.2.only A3.out.only hT), Or.inl rfl, Or.inl rfl⟩, A3.out.only⟩
set_option maxHeartbeats 4000000 in
set_option maxRecDepth 20000 in
theorem add4_any {T : TypeId} {B off : Nat} {name : ByteArray} {x : LifeS} {vm vo : Value} {w : World} (hT : T ≠ 9) (h : LifeAt T B off name x vm vo w) (hB : LifeB x) (t a b : Int) (nm ot : ByteArray) :
  Calls Tryz.prog 46 #[.pointer (some ⟨B, off, none⟩), .agg #[.int .i64 4, .int .i64 t, .int .i64 a, .int .i64 b, .string nm, .string ot]] w fun en w' => en = .returned (.tuple #[]) ∧ ∃ vm' vo', LifeF w T B off name (x.add name (4, t, a, b, nm, ot)) vm vo vm' vo' w' ∧ OnlyB T B off 18 w w' := by
 have A0 := Lib.hid (add_start h 4 t a b nm ot)
 have HR := Lib.hid (And.intro h.ms h.os)
 have HB := Lib.hid hB
 have hn := hB.n
 have hw1 : IntKind.i64.wrap ((x.n : Int) + 1) = (x.n : Int) + 1 := Go.IntWalk.i64_in _ ⟨by omega, by omega⟩
 clear h hB hn
 go_enter Tryz.func46, Tryz.ntmps46
 go_upto_region 1 with fail
 generalize (w.alloc _) = W0 at *
 have c1 := A0.out.cell (j := 1) rfl
 have f1 := A0.out.free 1
 have lB := A0.out.lt
 go_upto_region 2 with fail
 have A1 : Hid (AddC T B off name w w.heap.size (4, t, a, b, nm, ot) {x with n := x.n + 1} vm vo (W0.setCell ⟨B, off + 1, none⟩ (.int .i64 ((x.n : Int) + 1)))) := A0.out.set (j := 1) (.int .i64 ((x.n : Int) + 1)) (by decide) rfl
 generalize (W0.setCell ⟨B, off + 1, none⟩ _) = W1 at *
 clear A0 c1 f1 lB hw1
 obtain ⟨e0, e1, e2, e3, e4, e5, el⟩ := A1.out.ev
 have c2 := A1.out.cell (j := 2) rfl
 have f2 := A1.out.free 2
 have lB := A1.out.lt
 go_upto_region 3 with fail
 have A2 : Hid (AddC T B off name w w.heap.size (4, t, a, b, nm, ot) {x with n := x.n + 1, at_ := t} vm vo (W1.setCell ⟨B, off + 2, none⟩ (.int .i64 t))) := A1.out.set (j := 2) (.int .i64 t) (by decide) rfl
 generalize (W1.setCell ⟨B, off + 2, none⟩ _) = W2 at *
 clear A1 c2 f2 lB e0 e1 e2 e3 e4 e5 el
 obtain ⟨e0, e1, e2, e3, e4, e5, el⟩ := A2.out.ev
 have lB := A2.out.lt
 have c := A2.out.cell (j := 15) rfl
 have f := A2.out.free 15
 have hfa := HB.out.fau
 have hw2 : IntKind.i64.wrap (x.fau + 1) = x.fau + 1 := Go.IntWalk.i64_in _ ⟨by omega, by omega⟩
 clear hfa
 go_wp2_with fail
 have A3 : Hid (AddC T B off name w w.heap.size (4, t, a, b, nm, ot) {x with n := x.n + 1, at_ := t, fau := x.fau + 1} vm vo (W2.setCell ⟨B, off + 15, none⟩ (.int .i64 (x.fau + 1)))) := A2.out.set (j := 15) (.int .i64 (x.fau + 1)) (by decide) rfl
 refine bodyPost_end (results_none rfl _ _ _) rfl ?_
 first | exact ⟨rfl, ⟨vm, vo, ⟨A3.out.done (HR.out.1.only A3.out.only hT) (HR.out.2.only A3.out.only hT), Or.inl rfl, Or.inl rfl⟩⟩, A3.out.only⟩ | exact ⟨rfl, vm, vo, ⟨A3.out.done (HR.out.1.only A3.out.only hT) (HR.out.2.only A3.out.only hT), Or.inl rfl, Or.inl rfl⟩, A3.out.only⟩
set_option maxHeartbeats 4000000 in
set_option maxRecDepth 20000 in
theorem add2_any {T : TypeId} {B off : Nat} {name : ByteArray} {x : LifeS} {vm vo : Value} {w : World} (hT : T ≠ 9) (h : LifeAt T B off name x vm vo w) (hB : LifeB x) (t a b : Int) (nm ot : ByteArray) (ha : 0 ≤ a ∧ a ≤ 1099511627776) (hb : 0 ≤ b ∧ b ≤ 1099511627776) :
  Calls Tryz.prog 46 #[.pointer (some ⟨B, off, none⟩), .agg #[.int .i64 2, .int .i64 t, .int .i64 a, .int .i64 b, .string nm, .string ot]] w fun en w' => en = .returned (.tuple #[]) ∧ ∃ vm' vo', LifeF w T B off name (x.add name (2, t, a, b, nm, ot)) vm vo vm' vo' w' ∧ OnlyB T B off 18 w w' := by
 have A0 := Lib.hid (add_start h 2 t a b nm ot)
 have HR := Lib.hid (And.intro h.ms h.os)
 have HB := Lib.hid hB
 have hn := hB.n
 have hw1 : IntKind.i64.wrap ((x.n : Int) + 1) = (x.n : Int) + 1 := Go.IntWalk.i64_in _ ⟨by omega, by omega⟩
 clear h hB hn
 go_enter Tryz.func46, Tryz.ntmps46
 go_upto_region 1 with fail
 generalize (w.alloc _) = W0 at *
 have c1 := A0.out.cell (j := 1) rfl
 have f1 := A0.out.free 1
 have lB := A0.out.lt
 go_upto_region 2 with fail
 have A1 : Hid (AddC T B off name w w.heap.size (2, t, a, b, nm, ot) {x with n := x.n + 1} vm vo (W0.setCell ⟨B, off + 1, none⟩ (.int .i64 ((x.n : Int) + 1)))) := A0.out.set (j := 1) (.int .i64 ((x.n : Int) + 1)) (by decide) rfl
 generalize (W0.setCell ⟨B, off + 1, none⟩ _) = W1 at *
 clear A0 c1 f1 lB hw1
 obtain ⟨e0, e1, e2, e3, e4, e5, el⟩ := A1.out.ev
 have c2 := A1.out.cell (j := 2) rfl
 have f2 := A1.out.free 2
 have lB := A1.out.lt
 go_upto_region 3 with fail
 have A2 : Hid (AddC T B off name w w.heap.size (2, t, a, b, nm, ot) {x with n := x.n + 1, at_ := t} vm vo (W1.setCell ⟨B, off + 2, none⟩ (.int .i64 t))) := A1.out.set (j := 2) (.int .i64 t) (by decide) rfl
 generalize (W1.setCell ⟨B, off + 2, none⟩ _) = W2 at *
 clear A1 c2 f2 lB e0 e1 e2 e3 e4 e5 el
 obtain ⟨e0, e1, e2, e3, e4, e5, el⟩ := A2.out.ev
 have lB := A2.out.lt
 have hth := HB.out.thr
 have hho := HB.out.hot
 have hw2 : IntKind.i64.wrap (x.thr + a) = x.thr + a := Go.IntWalk.i64_in _ ⟨by omega, by omega⟩
 have hw3 : IntKind.i64.wrap (x.hot + b) = x.hot + b := Go.IntWalk.i64_in _ ⟨by omega, by omega⟩
 clear hth hho ha hb
 go_upto_region 12 with fail
 refine region_all 10 14 158 [(3, 53), (9, 159)] [(none, []), (none, []), (none, []), (some 0, []), (none, []), (none, []), (none, [0]), (none, []), (none, []), (some 1, [0])] [(50, (.pointer (some ⟨B, off, none⟩))), (51, (.pointer (some ⟨B, off, none⟩))), (52, (.pointer (some ⟨B, off + 11, none⟩))), (54, (.pointer (some ⟨w.heap.size, 2, none⟩))), (55, (.int .i64 (a))), (56, (.int .i64 (x.thr + a))), (57, (.pointer (some ⟨B, off, none⟩))), (58, (.pointer (some ⟨B, off + 11, none⟩)))] (fun bsE vsE W => RmS (fun q W => AddC T B off name w w.heap.size (2, t, a, b, nm, ot) (bif q then {x with n := x.n + 1, at_ := t, thr := x.thr + a} else {x with n := x.n + 1, at_ := t}) vm vo W) (.int .i64 (x.thr)) (bsE.getD 0 false) (bsE.getD 1 false) (vsE.getD 0 undef) W) (by kernel_rfl) (by kernel_rfl) rfl rfl (by kernel_rfl) (by rfl) ?h0 ?each ?done
 case h0 =>
  intro vsE hlv
  obtain ⟨v0, v1, rfl⟩ := ll2 hlv
  exact ⟨A2.out.step (Below.refl _ _).drew, (fun e => by cases e), (fun _ => rfl)⟩
 case each =>
  simp only [AllE]
  refine ⟨⟨50, (.pointer (some ⟨B, off, none⟩)), rfl, by kernel_rfl, ?_⟩, ⟨51, (.pointer (some ⟨B, off, none⟩)), rfl, by kernel_rfl, ?_⟩, ⟨52, (.pointer (some ⟨B, off + 11, none⟩)), rfl, by kernel_rfl, ?_⟩, Or.inl ⟨53, rfl, ?q1_3⟩, ⟨54, (.pointer (some ⟨w.heap.size, 2, none⟩)), rfl, by kernel_rfl, ?_⟩, ⟨55, (.int .i64 (a)), rfl, by kernel_rfl, ?_⟩, ⟨56, (.int .i64 (x.thr + a)), rfl, by kernel_rfl, ?q1_6⟩, ⟨57, (.pointer (some ⟨B, off, none⟩)), rfl, by kernel_rfl, ?_⟩, ⟨58, (.pointer (some ⟨B, off + 11, none⟩)), rfl, by kernel_rfl, ?_⟩, Or.inr ⟨rfl, ?q1_9⟩, trivial⟩
  case q1_3 =>
   intro bsE vsE W hlb hlv hnd hbk h
   obtain ⟨b0, b1, rfl⟩ := ll2 hlb
   obtain ⟨v0, v1, rfl⟩ := ll2 hlv
   obtain rfl : b0 = false := hbk
   replace h : RmS (fun q W => AddC T B off name w w.heap.size (2, t, a, b, nm, ot) (bif q then {x with n := x.n + 1, at_ := t, thr := x.thr + a} else {x with n := x.n + 1, at_ := t}) vm vo W) (.int .i64 (x.thr)) false b1 v0 W := h
   clear hnd
   have HST := Lib.hid h
   obtain rfl := h.n rfl; have c := h.s.cell (j := 11) rfl; have lB := h.s.lt
   intro K Q hK
   simp only [putE, updAll, Act.put, sl1, sl2, sl3, sl4] at hK ⊢
   go_wp2_with fail
   all_goals (first | exact hK _ _ ⟨h.s, fun _ => rfl, fun _ => rfl⟩ | exact ⟨h.s, fun _ => rfl, fun _ => rfl⟩)
  case q1_6 =>
   intro bsE vsE W hlb hlv hnd h
   obtain ⟨b0, b1, rfl⟩ := ll2 hlb
   obtain ⟨v0, v1, rfl⟩ := ll2 hlv
   obtain rfl : b0 = true := hnd 0 (by simp)
   replace h : RmS (fun q W => AddC T B off name w w.heap.size (2, t, a, b, nm, ot) (bif q then {x with n := x.n + 1, at_ := t, thr := x.thr + a} else {x with n := x.n + 1, at_ := t}) vm vo W) (.int .i64 (x.thr)) true b1 v0 W := h
   clear hnd
   have HST := Lib.hid h
   obtain rfl := h.v rfl; have lB := h.s.lt
   intro K Q hK
   simp only [putE, updAll, Act.put, sl1, sl2, sl3, sl4] at hK ⊢
   go_wp2_with (fail)
   all_goals (first | exact hK _ (by first | exact h | exact h.step (by repeat' (first | exact Below.refl _ _ | apply bDrewN | apply bDrew))) | exact (by first | exact h | exact h.step (by repeat' (first | exact Below.refl _ _ | apply bDrewN | apply bDrew))))
  case q1_9 =>
   intro bsE vsE W hlb hlv hnd hbk h
   obtain ⟨b0, b1, rfl⟩ := ll2 hlb
   obtain ⟨v0, v1, rfl⟩ := ll2 hlv
   obtain rfl : b0 = true := hnd 0 (by simp)
   obtain rfl : b1 = false := hbk
   replace h : RmS (fun q W => AddC T B off name w w.heap.size (2, t, a, b, nm, ot) (bif q then {x with n := x.n + 1, at_ := t, thr := x.thr + a} else {x with n := x.n + 1, at_ := t}) vm vo W) (.int .i64 (x.thr)) true false v0 W := h
   clear hnd
   have HST := Lib.hid h
   obtain rfl := h.v rfl; have c := h.s.cell (j := 11) rfl; have f := h.s.free 11; have lB := h.s.lt
   intro K Q hK
   simp only [putE, updAll, Act.put, sl1, sl2, sl3, sl4] at hK ⊢
   go_wp2_with fail
   all_goals (first | exact hK _ ⟨h.s.set (j := 11) (.int .i64 (x.thr + a)) (by decide) rfl, h.v, fun e => by cases e⟩ | exact ⟨h.s.set (j := 11) (.int .i64 (x.thr + a)) (by decide) rfl, h.v, fun e => by cases e⟩)
  all_goals
   intro bsE vsE W hlb hlv hnd h
   obtain ⟨b0, b1, rfl⟩ := ll2 hlb
   obtain ⟨v0, v1, rfl⟩ := ll2 hlv
   replace h : RmS (fun q W => AddC T B off name w w.heap.size (2, t, a, b, nm, ot) (bif q then {x with n := x.n + 1, at_ := t, thr := x.thr + a} else {x with n := x.n + 1, at_ := t}) vm vo W) (.int .i64 (x.thr)) b0 b1 v0 W := h
   clear hnd
   have HST := Lib.hid h
   have lB := h.s.lt; obtain ⟨e0, e1, e2, e3, e4, e5, el⟩ := h.s.ev
   intro K Q hK
   simp only [putE, updAll, Act.put, sl1, sl2, sl3, sl4] at hK ⊢
   go_wp2_with (fail)
   all_goals (first | exact hK _ (by first | exact h | exact h.step (by repeat' (first | exact Below.refl _ _ | apply bDrewN | apply bDrew))) | exact (by first | exact h | exact h.step (by repeat' (first | exact Below.refl _ _ | apply bDrewN | apply bDrew))))
 case done =>
  intro vsE W hlv h
  obtain ⟨v0, v1, rfl⟩ := ll2 hlv
  replace h : RmS (fun q W => AddC T B off name w w.heap.size (2, t, a, b, nm, ot) (bif q then {x with n := x.n + 1, at_ := t, thr := x.thr + a} else {x with n := x.n + 1, at_ := t}) vm vo W) (.int .i64 (x.thr)) true true v0 W := h
  have HST := Lib.hid h
  have A3 : Hid (AddC T B off name w w.heap.size (2, t, a, b, nm, ot) {x with n := x.n + 1, at_ := t, thr := x.thr + a} vm vo W) := h.s
  clear h HST A2 e0 e1 e2 e3 e4 e5 el lB
  simp only [putE, updAll, Act.put, sl1, sl2, sl3, sl4]
  go_upto_region 13 with fail
  obtain ⟨e0, e1, e2, e3, e4, e5, el⟩ := A3.out.ev
  have lB := A3.out.lt
  refine region_all 10 14 158 [(3, 62), (9, 159)] [(none, []), (none, []), (none, []), (some 0, []), (none, []), (none, []), (none, [0]), (none, []), (none, []), (some 1, [0])] [(59, (.pointer (some ⟨B, off, none⟩))), (60, (.pointer (some ⟨B, off, none⟩))), (61, (.pointer (some ⟨B, off + 12, none⟩))), (63, (.pointer (some ⟨w.heap.size, 3, none⟩))), (64, (.int .i64 (b))), (65, (.int .i64 (x.hot + b))), (66, (.pointer (some ⟨B, off, none⟩))), (67, (.pointer (some ⟨B, off + 12, none⟩)))] (fun bsE vsE W => RmS (fun q W => AddC T B off name w w.heap.size (2, t, a, b, nm, ot) (bif q then {x with n := x.n + 1, at_ := t, thr := x.thr + a, hot := x.hot + b} else {x with n := x.n + 1, at_ := t, thr := x.thr + a}) vm vo W) (.int .i64 (x.hot)) (bsE.getD 0 false) (bsE.getD 1 false) (vsE.getD 0 undef) W) (by kernel_rfl) (by kernel_rfl) rfl rfl (by kernel_rfl) (by rfl) ?h0 ?each ?done
  case h0 =>
   intro vsE hlv
   obtain ⟨v0, v1, rfl⟩ := ll2 hlv
   exact ⟨A3.out.step (Below.refl _ _).drew, (fun e => by cases e), (fun _ => rfl)⟩
  case each =>
   simp only [AllE]
   refine ⟨⟨59, (.pointer (some ⟨B, off, none⟩)), rfl, by kernel_rfl, ?_⟩, ⟨60, (.pointer (some ⟨B, off, none⟩)), rfl, by kernel_rfl, ?_⟩, ⟨61, (.pointer (some ⟨B, off + 12, none⟩)), rfl, by kernel_rfl, ?_⟩, Or.inl ⟨62, rfl, ?q2_3⟩, ⟨63, (.pointer (some ⟨w.heap.size, 3, none⟩)), rfl, by kernel_rfl, ?_⟩, ⟨64, (.int .i64 (b)), rfl, by kernel_rfl, ?_⟩, ⟨65, (.int .i64 (x.hot + b)), rfl, by kernel_rfl, ?q2_6⟩, ⟨66, (.pointer (some ⟨B, off, none⟩)), rfl, by kernel_rfl, ?_⟩, ⟨67, (.pointer (some ⟨B, off + 12, none⟩)), rfl, by kernel_rfl, ?_⟩, Or.inr ⟨rfl, ?q2_9⟩, trivial⟩
   case q2_3 =>
    intro bsE vsE W hlb hlv hnd hbk h
    obtain ⟨b0, b1, rfl⟩ := ll2 hlb
    obtain ⟨v0, v1, rfl⟩ := ll2 hlv
    obtain rfl : b0 = false := hbk
    replace h : RmS (fun q W => AddC T B off name w w.heap.size (2, t, a, b, nm, ot) (bif q then {x with n := x.n + 1, at_ := t, thr := x.thr + a, hot := x.hot + b} else {x with n := x.n + 1, at_ := t, thr := x.thr + a}) vm vo W) (.int .i64 (x.hot)) false b1 v0 W := h
    clear hnd
    have HST := Lib.hid h
    obtain rfl := h.n rfl; have c := h.s.cell (j := 12) rfl; have lB := h.s.lt
    intro K Q hK
    simp only [putE, updAll, Act.put, sl1, sl2, sl3, sl4] at hK ⊢
    go_wp2_with fail
    all_goals (first | exact hK _ _ ⟨h.s, fun _ => rfl, fun _ => rfl⟩ | exact ⟨h.s, fun _ => rfl, fun _ => rfl⟩)
   case q2_6 =>
    intro bsE vsE W hlb hlv hnd h
    obtain ⟨b0, b1, rfl⟩ := ll2 hlb
    obtain ⟨v0, v1, rfl⟩ := ll2 hlv
    obtain rfl : b0 = true := hnd 0 (by simp)
    replace h : RmS (fun q W => AddC T B off name w w.heap.size (2, t, a, b, nm, ot) (bif q then {x with n := x.n + 1, at_ := t, thr := x.thr + a, hot := x.hot + b} else {x with n := x.n + 1, at_ := t, thr := x.thr + a}) vm vo W) (.int .i64 (x.hot)) true b1 v0 W := h
    clear hnd
    have HST := Lib.hid h
    obtain rfl := h.v rfl; have lB := h.s.lt
    intro K Q hK
    simp only [putE, updAll, Act.put, sl1, sl2, sl3, sl4] at hK ⊢
    go_wp2_with (fail)
    all_goals (first | exact hK _ (by first | exact h | exact h.step (by repeat' (first | exact Below.refl _ _ | apply bDrewN | apply bDrew))) | exact (by first | exact h | exact h.step (by repeat' (first | exact Below.refl _ _ | apply bDrewN | apply bDrew))))
   case q2_9 =>
    intro bsE vsE W hlb hlv hnd hbk h
    obtain ⟨b0, b1, rfl⟩ := ll2 hlb
    obtain ⟨v0, v1, rfl⟩ := ll2 hlv
    obtain rfl : b0 = true := hnd 0 (by simp)
    obtain rfl : b1 = false := hbk
    replace h : RmS (fun q W => AddC T B off name w w.heap.size (2, t, a, b, nm, ot) (bif q then {x with n := x.n + 1, at_ := t, thr := x.thr + a, hot := x.hot + b} else {x with n := x.n + 1, at_ := t, thr := x.thr + a}) vm vo W) (.int .i64 (x.hot)) true false v0 W := h
    clear hnd
    have HST := Lib.hid h
    obtain rfl := h.v rfl; have c := h.s.cell (j := 12) rfl; have f := h.s.free 12; have lB := h.s.lt
    intro K Q hK
    simp only [putE, updAll, Act.put, sl1, sl2, sl3, sl4] at hK ⊢
    go_wp2_with fail
    all_goals (first | exact hK _ ⟨h.s.set (j := 12) (.int .i64 (x.hot + b)) (by decide) rfl, h.v, fun e => by cases e⟩ | exact ⟨h.s.set (j := 12) (.int .i64 (x.hot + b)) (by decide) rfl, h.v, fun e => by cases e⟩)
   all_goals
    intro bsE vsE W hlb hlv hnd h
    obtain ⟨b0, b1, rfl⟩ := ll2 hlb
    obtain ⟨v0, v1, rfl⟩ := ll2 hlv
    replace h : RmS (fun q W => AddC T B off name w w.heap.size (2, t, a, b, nm, ot) (bif q then {x with n := x.n + 1, at_ := t, thr := x.thr + a, hot := x.hot + b} else {x with n := x.n + 1, at_ := t, thr := x.thr + a}) vm vo W) (.int .i64 (x.hot)) b0 b1 v0 W := h
    clear hnd
    have HST := Lib.hid h
    have lB := h.s.lt; obtain ⟨e0, e1, e2, e3, e4, e5, el⟩ := h.s.ev
    intro K Q hK
    simp only [putE, updAll, Act.put, sl1, sl2, sl3, sl4] at hK ⊢
    go_wp2_with (fail)
    all_goals (first | exact hK _ (by first | exact h | exact h.step (by repeat' (first | exact Below.refl _ _ | apply bDrewN | apply bDrew))) | exact (by first | exact h | exact h.step (by repeat' (first | exact Below.refl _ _ | apply bDrewN | apply bDrew))))
  case done =>
   intro vsE W hlv h
   obtain ⟨v0, v1, rfl⟩ := ll2 hlv
   replace h : RmS (fun q W => AddC T B off name w w.heap.size (2, t, a, b, nm, ot) (bif q then {x with n := x.n + 1, at_ := t, thr := x.thr + a, hot := x.hot + b} else {x with n := x.n + 1, at_ := t, thr := x.thr + a}) vm vo W) (.int .i64 (x.hot)) true true v0 W := h
   have HST := Lib.hid h
   have A4 : Hid (AddC T B off name w w.heap.size (2, t, a, b, nm, ot) {x with n := x.n + 1, at_ := t, thr := x.thr + a, hot := x.hot + b} vm vo W) := h.s
   clear h HST A3 e0 e1 e2 e3 e4 e5 el lB
   simp only [putE, updAll, Act.put, sl1, sl2, sl3, sl4]
   go_wp2_with fail
   refine bodyPost_end (results_none rfl _ _ _) rfl ?_
   first | exact ⟨rfl, ⟨vm, vo, ⟨A4.out.done (HR.out.1.only A4.out.only hT) (HR.out.2.only A4.out.only hT), Or.inl rfl, Or.inl rfl⟩⟩, A4.out.only⟩ | exact ⟨rfl, vm, vo, ⟨A4.out.done (HR.out.1.only A4.out.only hT) (HR.out.2.only A4.out.only hT), Or.inl rfl, Or.inl rfl⟩, A4.out.only⟩
set_option maxHeartbeats 4000000 in
set_option maxRecDepth 20000 in
theorem add3_any {T : TypeId} {B off : Nat} {name : ByteArray} {x : LifeS} {vm vo : Value} {w : World} (hT : T ≠ 9) (h : LifeAt T B off name x vm vo w) (hB : LifeB x) (t a b : Int) (nm ot : ByteArray) :
  Calls Tryz.prog 46 #[.pointer (some ⟨B, off, none⟩), .agg #[.int .i64 3, .int .i64 t, .int .i64 a, .int .i64 b, .string nm, .string ot]] w fun en w' => en = .returned (.tuple #[]) ∧ ∃ vm' vo', LifeF w T B off name (x.add name (3, t, a, b, nm, ot)) vm vo vm' vo' w' ∧ OnlyB T B off 18 w w' := by
 have A0 := Lib.hid (add_start h 3 t a b nm ot)
 have HR := Lib.hid (And.intro h.ms h.os)
 have HB := Lib.hid hB
 have hn := hB.n
 have hw1 : IntKind.i64.wrap ((x.n : Int) + 1) = (x.n : Int) + 1 := Go.IntWalk.i64_in _ ⟨by omega, by omega⟩
 clear h hB hn
 go_enter Tryz.func46, Tryz.ntmps46
 go_upto_region 1 with fail
 generalize (w.alloc _) = W0 at *
 have c1 := A0.out.cell (j := 1) rfl
 have f1 := A0.out.free 1
 have lB := A0.out.lt
 go_upto_region 2 with fail
 have A1 : Hid (AddC T B off name w w.heap.size (3, t, a, b, nm, ot) {x with n := x.n + 1} vm vo (W0.setCell ⟨B, off + 1, none⟩ (.int .i64 ((x.n : Int) + 1)))) := A0.out.set (j := 1) (.int .i64 ((x.n : Int) + 1)) (by decide) rfl
 generalize (W0.setCell ⟨B, off + 1, none⟩ _) = W1 at *
 clear A0 c1 f1 lB hw1
 obtain ⟨e0, e1, e2, e3, e4, e5, el⟩ := A1.out.ev
 have c2 := A1.out.cell (j := 2) rfl
 have f2 := A1.out.free 2
 have lB := A1.out.lt
 go_upto_region 3 with fail
 have A2 : Hid (AddC T B off name w w.heap.size (3, t, a, b, nm, ot) {x with n := x.n + 1, at_ := t} vm vo (W1.setCell ⟨B, off + 2, none⟩ (.int .i64 t))) := A1.out.set (j := 2) (.int .i64 t) (by decide) rfl
 generalize (W1.setCell ⟨B, off + 2, none⟩ _) = W2 at *
 clear A1 c2 f2 lB e0 e1 e2 e3 e4 e5 el
 obtain ⟨e0, e1, e2, e3, e4, e5, el⟩ := A2.out.ev
 have lB := A2.out.lt
 go_upto_region 15 with fail
 refine region_all 10 14 158 [(6, 158), (9, 159)] [(none, []), (none, []), (none, []), (none, []), (none, []), (none, []), (some 0, []), (none, []), (none, []), (some 1, [])] [(70, (.pointer (some ⟨B, off, none⟩))), (71, (.pointer (some ⟨B, off, none⟩))), (72, (.pointer (some ⟨w.heap.size, 2, none⟩))), (73, (.int .i64 (a))), (74, (.pointer (some ⟨B, off, none⟩))), (75, (.pointer (some ⟨B, off + 13, none⟩))), (76, (.pointer (some ⟨B, off, none⟩))), (77, (.pointer (some ⟨B, off + 14, none⟩)))] (fun bsE vsE W => AddC T B off name w w.heap.size (3, t, a, b, nm, ot) {x with n := x.n + 1, at_ := t, tst := bif (bsE.getD 0 false) then true else x.tst, tes := bif (bsE.getD 1 false) then a else x.tes} vm vo W) (by kernel_rfl) (by kernel_rfl) rfl rfl (by kernel_rfl) (by rfl) ?h0 ?each ?done
 case h0 =>
  intro vsE hlv
  obtain ⟨v0, v1, rfl⟩ := ll2 hlv
  exact A2.out.step (Below.refl _ _).drew
 case each =>
  simp only [AllE]
  refine ⟨⟨70, (.pointer (some ⟨B, off, none⟩)), rfl, by kernel_rfl, ?_⟩, ⟨71, (.pointer (some ⟨B, off, none⟩)), rfl, by kernel_rfl, ?_⟩, ⟨72, (.pointer (some ⟨w.heap.size, 2, none⟩)), rfl, by kernel_rfl, ?_⟩, ⟨73, (.int .i64 (a)), rfl, by kernel_rfl, ?_⟩, ⟨74, (.pointer (some ⟨B, off, none⟩)), rfl, by kernel_rfl, ?_⟩, ⟨75, (.pointer (some ⟨B, off + 13, none⟩)), rfl, by kernel_rfl, ?_⟩, Or.inr ⟨rfl, ?q3_6⟩, ⟨76, (.pointer (some ⟨B, off, none⟩)), rfl, by kernel_rfl, ?_⟩, ⟨77, (.pointer (some ⟨B, off + 14, none⟩)), rfl, by kernel_rfl, ?_⟩, Or.inr ⟨rfl, ?q3_9⟩, trivial⟩
  case q3_6 =>
   intro bsE vsE W hlb hlv hnd hbk h
   obtain ⟨b0, b1, rfl⟩ := ll2 hlb
   obtain ⟨v0, v1, rfl⟩ := ll2 hlv
   obtain rfl : b0 = false := hbk
   replace h : AddC T B off name w w.heap.size (3, t, a, b, nm, ot) {x with n := x.n + 1, at_ := t, tst := bif false then true else x.tst, tes := bif b1 then a else x.tes} vm vo W := h
   clear hnd
   have HST := Lib.hid h
   have c := h.cell (j := 13) rfl; have f := h.free 13; have lB := h.lt
   intro K Q hK
   simp only [putE, updAll, Act.put, sl1, sl2, sl3, sl4] at hK ⊢
   go_wp2_with fail
   all_goals (first | exact hK _ (h.set (j := 13) (.bool true) (by decide) rfl) | exact (h.set (j := 13) (.bool true) (by decide) rfl))
  case q3_9 =>
   intro bsE vsE W hlb hlv hnd hbk h
   obtain ⟨b0, b1, rfl⟩ := ll2 hlb
   obtain ⟨v0, v1, rfl⟩ := ll2 hlv
   obtain rfl : b1 = false := hbk
   replace h : AddC T B off name w w.heap.size (3, t, a, b, nm, ot) {x with n := x.n + 1, at_ := t, tst := bif b0 then true else x.tst, tes := bif false then a else x.tes} vm vo W := h
   clear hnd
   have HST := Lib.hid h
   have c := h.cell (j := 14) rfl; have f := h.free 14; have lB := h.lt
   intro K Q hK
   simp only [putE, updAll, Act.put, sl1, sl2, sl3, sl4] at hK ⊢
   go_wp2_with fail
   all_goals (first | exact hK _ (h.set (j := 14) (.int .i64 (a)) (by decide) rfl) | exact (h.set (j := 14) (.int .i64 (a)) (by decide) rfl))
  all_goals
   intro bsE vsE W hlb hlv hnd h
   obtain ⟨b0, b1, rfl⟩ := ll2 hlb
   obtain ⟨v0, v1, rfl⟩ := ll2 hlv
   replace h : AddC T B off name w w.heap.size (3, t, a, b, nm, ot) {x with n := x.n + 1, at_ := t, tst := bif b0 then true else x.tst, tes := bif b1 then a else x.tes} vm vo W := h
   clear hnd
   have HST := Lib.hid h
   have lB := h.lt; obtain ⟨e0, e1, e2, e3, e4, e5, el⟩ := h.ev
   intro K Q hK
   simp only [putE, updAll, Act.put, sl1, sl2, sl3, sl4] at hK ⊢
   go_wp2_with (fail)
   all_goals (first | exact hK _ (by first | exact h | exact h.step (by repeat' (first | exact Below.refl _ _ | apply bDrewN | apply bDrew))) | exact (by first | exact h | exact h.step (by repeat' (first | exact Below.refl _ _ | apply bDrewN | apply bDrew))))
 case done =>
  intro vsE W hlv h
  obtain ⟨v0, v1, rfl⟩ := ll2 hlv
  replace h : AddC T B off name w w.heap.size (3, t, a, b, nm, ot) {x with n := x.n + 1, at_ := t, tst := bif true then true else x.tst, tes := bif true then a else x.tes} vm vo W := h
  have HST := Lib.hid h
  have A3 : Hid (AddC T B off name w w.heap.size (3, t, a, b, nm, ot) {x with n := x.n + 1, at_ := t, tst := true, tes := a} vm vo W) := h
  clear h HST A2 e0 e1 e2 e3 e4 e5 el lB
  simp only [putE, updAll, Act.put, sl1, sl2, sl3, sl4]
  go_wp2_with fail
  refine bodyPost_end (results_none rfl _ _ _) rfl ?_
  first | exact ⟨rfl, ⟨vm, vo, ⟨A3.out.done (HR.out.1.only A3.out.only hT) (HR.out.2.only A3.out.only hT), Or.inl rfl, Or.inl rfl⟩⟩, A3.out.only⟩ | exact ⟨rfl, vm, vo, ⟨A3.out.done (HR.out.1.only A3.out.only hT) (HR.out.2.only A3.out.only hT), Or.inl rfl, Or.inl rfl⟩, A3.out.only⟩
end Go.Proofs.YtmpilgkfbibhlaaGreatDoor
