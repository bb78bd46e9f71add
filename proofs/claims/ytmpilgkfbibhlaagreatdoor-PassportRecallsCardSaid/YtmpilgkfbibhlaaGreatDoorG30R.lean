/-
 Recall of package passport.
-/
import Derived.Test.YtmpilgkfbibhlaaGreatDoorG29R
import Derived.Test.YtmpilgkfbibhlaaGreatDoorG28R
import Derived.Lib.SliceRun
set_option linter.unusedSimpArgs false
set_option linter.unusedVariables false
namespace Go.Proofs.YtmpilgkfbibhlaaGreatDoor
open Sx Go.RowKit Mr
set_option maxHeartbeats 4000000 in
set_option maxRecDepth 20000 in
theorem rc1_any {B R : Nat} {a : RegA} {g : RegS} {vb vp : Value} {w : World} (h : RegV B R vb a g vp w) {PB cp i : Nat} {p : ByteArray × List Ent} (hvp : vp = .slice (some ⟨PB, 0, none⟩) g.qs.length cp) (hp : a.ps[i]? = some p) {E : Nat} {t : Int} (hE : w.cell? ⟨E, 0, none⟩ = some (.int .i64 t)) (hE2 : E < w.heap.size) : Calls Tryz.prog 63 #[.pointer (some ⟨PB, i * 20, none⟩), .pointer (some ⟨E, 0, none⟩)] w fun en w' => en = .returned (.bool (decide (t < (lf p).at_))) ∧ Below w.heap.size w w' := by
 obtain ⟨q, hq, e1, e2, e3, e4⟩ := h.get hp
 have hL := (h.ra.life hvp hq).1
 have c2 := hL.open1.2.2.1
 rw [e3] at c2
 have cl := hL.lt
 generalize (lf p).at_ = x at *
 clear h hvp hp hq e1 e2 e3 e4 hL
 go_enter Tryz.func63, Tryz.ntmps63
 go_upto_region 1 with fail
 go_quiet (fail)
 go_wp2_with fail
 exact bodyPost_ret (v := .bool (decide (t < x))) (by simp only [results, Tryz.results63]; go_simp) rfl ⟨rfl, (by repeat' (first | exact Below.refl _ _ | assumption | apply bDrewN | apply bDrew | apply bAlloc | (refine bSet ?_ ?_ _) | (refine bStep ?_ (by assumption)) | omega | (simp <;> omega)))⟩
set_option maxHeartbeats 4000000 in
set_option maxRecDepth 20000 in
theorem rc2_any {B R : Nat} {a : RegA} {g : RegS} {vb vp : Value} {w : World} (h : RegV B R vb a g vp w) {PB cp i : Nat} {p : ByteArray × List Ent} (hvp : vp = .slice (some ⟨PB, 0, none⟩) g.qs.length cp) (hp : a.ps[i]? = some p) (hl : p.2.length ≤ 500) : Calls Tryz.prog 64 #[.pointer (some ⟨PB, i * 20, none⟩)] w fun en w' => en = .returned (.bool (decide (500 ≤ p.2.length))) ∧ Below w.heap.size w w' := by
 obtain ⟨q, hq, e1, e2, e3, e4⟩ := h.get hp
 have hL := h.ra.life hvp hq
 obtain ⟨pv, cv, hve⟩ := h.ra.veS (List.mem_of_getElem? hq)
 have c2 := hL.2.2
 rw [hve, e2] at c2
 have cl := hL.1.lt
 have hd : decide (500 ≤ p.2.length) = decide ((p.2.length : Int) ≥ 500) := by
  by_cases c : 500 ≤ p.2.length
  ·rw [decide_eq_true c, decide_eq_true (by omega)]
  ·rw [decide_eq_false c, decide_eq_false (by omega)]
 rw [hd]
 generalize p.2.length = x at *
 clear h hvp hp hq e1 e2 e3 e4 hL hve hd
 go_enter Tryz.func64, Tryz.ntmps64
 go_wp2_with fail
 exact bodyPost_ret (v := .bool (decide ((x : Int) ≥ 500))) (by simp only [results, Tryz.results64]; go_simp) rfl ⟨rfl, (by repeat' (first | exact Below.refl _ _ | assumption | apply bDrewN | apply bDrew | apply bAlloc | (refine bSet ?_ ?_ _) | (refine bStep ?_ (by assumption)) | omega | (simp <;> omega)))⟩
set_option maxHeartbeats 4000000 in
set_option maxRecDepth 20000 in
theorem ridx1_any {B R : Nat} {a : RegA} {g : RegS} {vb vp : Value} {w : World} (h : RegV B R vb a g vp w) (ho : OkB a) {B0 c : Nat} {ad : Option Addr} {L : List Nat} (hr : w.ownsRow B0 112 1 (.slice ad L.length c) L.length (L.map (pkPtr vp))) (hl : L.length ≤ 100) (hm : ∀ i ∈ L, ∃ p, a.ps[i]? = some p ∧ packA a i = p) {E : Nat} {t : Int} (hE : w.cell? ⟨E, 0, none⟩ = some (.int .i64 t)) (hE2 : E < w.heap.size) : Calls Tryz.prog 117 #[.slice ad L.length c, .func (.func 63) #[] #[.pointer (some ⟨E, 0, none⟩)]] w fun en w' => ∃ i : Int, en = .returned (.int .i64 i) ∧ decide (i ≥ 0) = L.any (fun i => decide (t < (lf (packA a i)).at_)) ∧ Below w.heap.size w w' := by
 have H := Lib.hid h
 have HO := Lib.hid ho
 have HR := Lib.hid hr
 have HM := Lib.hid hm
 have HE := Lib.hid (And.intro hE hE2)
 clear h ho hr hm hE hE2
 go_enter Tryz.func117, Tryz.ntmps117
 go_wp2_with fail
 go_loopw [8] (fun ix wr => ∃ i : Nat, i ≤ L.length ∧ ix = .int .i64 i ∧ Hid ((L.take i).any (fun i => decide (t < (lf (packA a i)).at_)) = false) ∧ Hid (Below w.heap.size w wr)) (fun ix _ => L.length - (intOf ix).toNat)
 case atStart => exact ⟨0, by omega, rfl, rfl, Below.refl _ _⟩
 case round =>
  obtain ⟨i, hi, rfl, HT, HW⟩ := hrel
  by_cases hc : i < L.length
  ·have c1 : (i : Int) < L.length := by omega
   have c0 : (0 : Int) ≤ i := by omega
   obtain ⟨x, hk⟩ : ∃ x, L[i]? = some x := ⟨L[i], List.getElem?_eq_getElem hc⟩
   obtain ⟨p, hp, hpa⟩ := HM.out x (List.mem_of_getElem? hk)
   obtain ⟨PB, cp, cur, hvp, -⟩ := H.out.ra.packs (by rintro c; have h9 := H.out.get hp; rw [c] at h9; obtain ⟨q9, h8, -⟩ := h9; cases h8)
   obtain ⟨b, rfl, hb, hcs⟩ := row_cells (b := 0) (c := c) HR.out (by omega)
   have g1 := cell_step (hcs i (pkPtr vp x) (by rw [List.getElem?_map, hk]; rfl)) HW.out
   subst hvp
   rw [pkPtr_at] at g1
   have lb := Nat.lt_of_lt_of_le hb HW.out.size
   have CB := Lib.hid (rc1_any (H.out.step HW.out) rfl hp (cell_step HE.out.1 HW.out) (Nat.lt_of_lt_of_le HE.out.2 HW.out.size))
   have HKK := Lib.hid hk
   have HPA := Lib.hid hpa
   rw [show p = packA a x from hpa.symm] at CB
   clear hcs hp hk hc hpa hb
   cases hbd : decide (t < (lf (packA a x)).at_)
   ·have HBD := Lib.hid hbd
    rw [hbd] at CB
    clear hbd
    go_wp2_with (go_at_call 63; refine CB.out.mono ?_; rintro e w1 ⟨rfl, hb1⟩)
    exact ⟨⟨i + 1, by omega, by push_cast; rfl, Lib.hid (show (L.take (i + 1)).any (fun i => decide (t < (lf (packA a i)).at_)) = false by rw [List.take_add_one, HKK.out, List.any_append, HT.out]; simpa using HBD.out), bStep HW.out hb1⟩, by simp [intOf]; omega⟩
   ·have HBD := Lib.hid hbd
    rw [hbd] at CB
    clear hbd
    go_wp2_with (go_at_call 63; refine CB.out.mono ?_; rintro e w1 ⟨rfl, hb1⟩)
    exact bodyPost_ret (v := .int .i64 (i : Int)) (by simp only [results, Tryz.results117]; go_simp) rfl ⟨i, rfl, by rw [List.any_eq_true.2 ⟨x, List.mem_of_getElem? HKK.out, HBD.out⟩]; exact decide_eq_true (by omega), bStep HW.out hb1⟩
  ·obtain rfl : i = L.length := by omega
   clear hc
   go_wp2_with fail
   exact bodyPost_ret (v := .int .i64 (-1)) (by simp only [results, Tryz.results117]; go_simp) rfl ⟨-1, rfl, by have q := HT.out; rw [List.take_of_length_le (Nat.le_refl _)] at q; rw [q]; rfl, HW.out⟩
set_option maxHeartbeats 4000000 in
set_option maxRecDepth 20000 in
theorem rcon1_any {B R : Nat} {a : RegA} {g : RegS} {vb vp : Value} {w : World} (h : RegV B R vb a g vp w) (ho : OkB a) {B0 c : Nat} {ad : Option Addr} {L : List Nat} (hr : w.ownsRow B0 112 1 (.slice ad L.length c) L.length (L.map (pkPtr vp))) (hl : L.length ≤ 100) (hm : ∀ i ∈ L, ∃ p, a.ps[i]? = some p ∧ packA a i = p) {E : Nat} {t : Int} (hE : w.cell? ⟨E, 0, none⟩ = some (.int .i64 t)) (hE2 : E < w.heap.size) : Calls Tryz.prog 62 #[.slice ad L.length c, .func (.func 63) #[] #[.pointer (some ⟨E, 0, none⟩)]] w fun en w' => en = .returned (.bool (L.any (fun i => decide (t < (lf (packA a i)).at_)))) ∧ Below w.heap.size w w' := by
 have CI := Lib.hid (ridx1_any h ho hr hl hm hE hE2)
 clear h ho hr hl hm hE hE2
 generalize L.any (fun i => decide (t < (lf (packA a i)).at_)) = r at *
 generalize L.length = n at *
 go_enter Tryz.func62, Tryz.ntmps62
 go_wp2_with (go_at_call 117; refine CI.out.mono ?_; rintro e w1 ⟨i, rfl, hi, hb1⟩; have HI := Lib.hid hi; clear hi)
 exact bodyPost_ret (v := .bool (decide (i ≥ 0))) (by simp only [results, Tryz.results62]; go_simp) rfl ⟨by rw [HI.out], hb1⟩
set_option maxHeartbeats 4000000 in
set_option maxRecDepth 20000 in
theorem ridx2_any {B R : Nat} {a : RegA} {g : RegS} {vb vp : Value} {w : World} (h : RegV B R vb a g vp w) (ho : OkB a) {B0 c : Nat} {ad : Option Addr} {L : List Nat} (hr : w.ownsRow B0 112 1 (.slice ad L.length c) L.length (L.map (pkPtr vp))) (hl : L.length ≤ 100) (hm : ∀ i ∈ L, ∃ p, a.ps[i]? = some p ∧ packA a i = p) : Calls Tryz.prog 117 #[.slice ad L.length c, .func (.func 64) #[] #[]] w fun en w' => ∃ i : Int, en = .returned (.int .i64 i) ∧ decide (i ≥ 0) = L.any (fun i => decide (500 ≤ (packA a i).2.length)) ∧ Below w.heap.size w w' := by
 have H := Lib.hid h
 have HO := Lib.hid ho
 have HR := Lib.hid hr
 have HM := Lib.hid hm
 clear h ho hr hm
 go_enter Tryz.func117, Tryz.ntmps117
 go_wp2_with fail
 go_loopw [8] (fun ix wr => ∃ i : Nat, i ≤ L.length ∧ ix = .int .i64 i ∧ Hid ((L.take i).any (fun i => decide (500 ≤ (packA a i).2.length)) = false) ∧ Hid (Below w.heap.size w wr)) (fun ix _ => L.length - (intOf ix).toNat)
 case atStart => exact ⟨0, by omega, rfl, rfl, Below.refl _ _⟩
 case round =>
  obtain ⟨i, hi, rfl, HT, HW⟩ := hrel
  by_cases hc : i < L.length
  ·have c1 : (i : Int) < L.length := by omega
   have c0 : (0 : Int) ≤ i := by omega
   obtain ⟨x, hk⟩ : ∃ x, L[i]? = some x := ⟨L[i], List.getElem?_eq_getElem hc⟩
   obtain ⟨p, hp, hpa⟩ := HM.out x (List.mem_of_getElem? hk)
   obtain ⟨PB, cp, cur, hvp, -⟩ := H.out.ra.packs (by rintro c; have h9 := H.out.get hp; rw [c] at h9; obtain ⟨q9, h8, -⟩ := h9; cases h8)
   obtain ⟨b, rfl, hb, hcs⟩ := row_cells (b := 0) (c := c) HR.out (by omega)
   have g1 := cell_step (hcs i (pkPtr vp x) (by rw [List.getElem?_map, hk]; rfl)) HW.out
   subst hvp
   rw [pkPtr_at] at g1
   have lb := Nat.lt_of_lt_of_le hb HW.out.size
   have CB := Lib.hid (rc2_any (H.out.step HW.out) rfl hp (HO.out.p p (List.mem_of_getElem? hp)).1)
   have HKK := Lib.hid hk
   have HPA := Lib.hid hpa
   rw [show p = packA a x from hpa.symm] at CB
   clear hcs hp hk hc hpa hb
   cases hbd : decide (500 ≤ (packA a x).2.length)
   ·have HBD := Lib.hid hbd
    rw [hbd] at CB
    clear hbd
    go_wp2_with (go_at_call 64; refine CB.out.mono ?_; rintro e w1 ⟨rfl, hb1⟩)
    exact ⟨⟨i + 1, by omega, by push_cast; rfl, Lib.hid (show (L.take (i + 1)).any (fun i => decide (500 ≤ (packA a i).2.length)) = false by rw [List.take_add_one, HKK.out, List.any_append, HT.out]; simpa using HBD.out), bStep HW.out hb1⟩, by simp [intOf]; omega⟩
   ·have HBD := Lib.hid hbd
    rw [hbd] at CB
    clear hbd
    go_wp2_with (go_at_call 64; refine CB.out.mono ?_; rintro e w1 ⟨rfl, hb1⟩)
    exact bodyPost_ret (v := .int .i64 (i : Int)) (by simp only [results, Tryz.results117]; go_simp) rfl ⟨i, rfl, by rw [List.any_eq_true.2 ⟨x, List.mem_of_getElem? HKK.out, HBD.out⟩]; exact decide_eq_true (by omega), bStep HW.out hb1⟩
  ·obtain rfl : i = L.length := by omega
   clear hc
   go_wp2_with fail
   exact bodyPost_ret (v := .int .i64 (-1)) (by simp only [results, Tryz.results117]; go_simp) rfl ⟨-1, rfl, by have q := HT.out; rw [List.take_of_length_le (Nat.le_refl _)] at q; rw [q]; rfl, HW.out⟩
set_option maxHeartbeats 4000000 in
set_option maxRecDepth 20000 in
theorem rcon2_any {B R : Nat} {a : RegA} {g : RegS} {vb vp : Value} {w : World} (h : RegV B R vb a g vp w) (ho : OkB a) {B0 c : Nat} {ad : Option Addr} {L : List Nat} (hr : w.ownsRow B0 112 1 (.slice ad L.length c) L.length (L.map (pkPtr vp))) (hl : L.length ≤ 100) (hm : ∀ i ∈ L, ∃ p, a.ps[i]? = some p ∧ packA a i = p) : Calls Tryz.prog 62 #[.slice ad L.length c, .func (.func 64) #[] #[]] w fun en w' => en = .returned (.bool (L.any (fun i => decide (500 ≤ (packA a i).2.length)))) ∧ Below w.heap.size w w' := by
 have CI := Lib.hid (ridx2_any h ho hr hl hm)
 clear h ho hr hl hm
 generalize L.any (fun i => decide (500 ≤ (packA a i).2.length)) = r at *
 generalize L.length = n at *
 go_enter Tryz.func62, Tryz.ntmps62
 go_wp2_with (go_at_call 117; refine CI.out.mono ?_; rintro e w1 ⟨i, rfl, hi, hb1⟩; have HI := Lib.hid hi; clear hi)
 exact bodyPost_ret (v := .bool (decide (i ≥ 0))) (by simp only [results, Tryz.results62]; go_simp) rfl ⟨by rw [HI.out], hb1⟩
end Go.Proofs.YtmpilgkfbibhlaaGreatDoor
namespace Go.Proofs.YtmpilgkfbibhlaaGreatDoor
open Sx Go.RowKit Mr
section
variable {a : RegA} {b t t0 t1 : Int} {bt r : ByteArray}
theorem recallA_1 (hb : ¬ (0 ≤ b ∧ b < a.bks.length)) : recallA a b t bt t0 t1 r = (3, [], a) := by unfold recallA; rw [if_pos hb]
theorem recallA_2 (hb : 0 ≤ b ∧ b < a.bks.length) (h : ¬ (nameB bt = true ∧ nameB r = true ∧ timeB t = true ∧ timeB t0 = true ∧ timeB t1 = true)) : recallA a b t bt t0 t1 r = (2, [], a) := by unfold recallA; rw [if_neg (fun c => c hb), if_pos h]
theorem recallA_3 (hb : 0 ≤ b ∧ b < a.bks.length) (h : nameB bt = true ∧ nameB r = true ∧ timeB t = true ∧ timeB t0 = true ∧ timeB t1 = true) : recallA a b t bt t0 t1 r =
  if (affA a bt t0 t1 r).any (fun i => decide (t < (lf (packA a i)).at_)) = true then (10, [], a) else
  if (affA a bt t0 t1 r).any (fun i => decide (500 ≤ (packA a i).2.length)) = true then (11, [], a) else
  if leftA a b < (affA a bt t0 t1 r).length then (4, [], a) else
  (0, (affA a bt t0 t1 r).map (nameA a), recsA t r b.toNat (affA a bt t0 t1 r) a) := by unfold recallA; rw [if_neg (fun c => c hb), if_neg (fun c => c h)]
theorem affA_len {a : RegA} (ho : OkA a) : (affA a bt t0 t1 r).length ≤ 100 := by
 unfold affA
 have h1 := List.length_filter_le (fun i => match a.ps[i]? with | some p => affP a bt t0 t1 r p | none => false) (List.range a.ps.length)
 rw [List.length_range] at h1
 exact Nat.le_trans h1 ho.np
end
theorem ptr_row {W : World} {B0 c : Nat} {ad : Option Addr} {L : List Nat} {vp : Value} (h : W.ownsRow B0 112 1 (.slice ad L.length c) L.length (L.map (pkPtr vp))) :
  ∃ bL cL, L ≠ [] → ad = some ⟨bL, 0, none⟩ ∧ W.heap[bL]? = some (.cells cL 112 (0, 0)) ∧ ∀ (j i : Nat), L[j]? = some i → cL[j]? = some (pkPtr vp i) := by
 obtain ⟨-, h2⟩ := h
 rcases h2 with ⟨e1, e2⟩ | ⟨g, cap, cur, q1, q2, q3, q4, q5, q6, q7⟩
 ·exact ⟨0, #[], fun hn => absurd (List.length_eq_zero_iff.1 e2) hn⟩
 ·refine ⟨g, cur, fun hn => ⟨?_, q3, fun j i hj => ?_⟩⟩
  ·injection q1
  ·have hj2 : (L.map (pkPtr vp))[j]? = some (pkPtr vp i) := by rw [List.getElem?_map, hj]; rfl
   have hjl := (List.getElem?_eq_some_iff.1 hj2).1
   rw [← q7] at hj2
   rw [← Array.getElem?_toList]
   rw [List.getElem?_take] at hj2
   split at hj2
   ·exact hj2
   ·cases hj2
set_option maxHeartbeats 4000000 in
set_option maxRecDepth 20000 in
theorem Recall_1 {B R : Nat} {a : RegA} {g : RegS} {vb vp : Value} {w : World} (h : RegV B R vb a g vp w) (ho : OkA a) (hG : Glob0 w) (b t : Int) (bt : ByteArray) (t0 t1 : Int) (r : ByteArray) (hs : bt.size ≤ 1000000 ∧ r.size ≤ 1000000) (hb : ¬ (0 ≤ b ∧ b < a.bks.length)) :
  Calls Tryz.prog 19 #[.pointer (some ⟨R, 0, none⟩), .int .i64 b, .int .i64 t, .string bt, .int .i64 t0, .int .i64 t1, .string r] w fun en w' => ∃ v', en = .returned (.tuple #[v', .int .i64 (recallA a b t bt t0 t1 r).1]) ∧ w'.ownsRow w.heap.size 9 1 v' (recallA a b t bt t0 t1 r).2.1.length ((recallA a b t bt t0 t1 r).2.1.map Value.string) ∧ RegN B R vb (recallA a b t bt t0 t1 r).2.2 g vp w w' := by
 rw [show recallA a b t bt t0 t1 r = (3, [], a) from recallA_1 hb]
 dsimp only
 have hok := h.ok ho.toOkB
 have hbks : g.bks = a.bks := by rw [← h.abs]; rfl
 have hlen := h.len
 have hnp := ho.np
 have hla : leftR g b = leftA a b := by rw [left_abs, h.abs]
 have H := Lib.hid h
 obtain ⟨pa, cp, hvp⟩ := h.ra.vpS
 subst hvp
 have hLL := affA_len (bt := bt) (t0 := t0) (t1 := t1) (r := r) ho
 have CV := Lib.hid (fun W (hW : Below w.heap.size w W) => valid_any (h.ra.step hW) hok.pt.1)
 have CB := Lib.hid (fun W (hW : Below w.heap.size w W) => book_any (h.ra.step hW) b)
 have CN1 := Lib.hid (fun W => isName_any bt W (by omega))
 have CN2 := Lib.hid (fun W => isName_any r W (by omega))
 have CT1 := Lib.hid (fun W => isTime_any t W)
 have CT2 := Lib.hid (fun W => isTime_any t0 W)
 have CT3 := Lib.hid (fun W => isTime_any t1 W)
 have CA := Lib.hid (fun W (hW : Below w.heap.size w W) => affected_any (h.step hW) ho (gstep hG hW) bt r t0 t1)
 have CQ1 := Lib.hid (fun W (hW : Below w.heap.size w W) (ad : Option Addr) (c : Nat) (hr : W.ownsRow w.heap.size 112 1 (.slice ad (affA a bt t0 t1 r).length c) (affA a bt t0 t1 r).length ((affA a bt t0 t1 r).map (pkPtr (.slice pa g.qs.length cp)))) (hE : W.cell? ⟨w.heap.size, 0, none⟩ = some (.int .i64 t)) (hE2 : w.heap.size < W.heap.size) => rcon1_any (h.step hW) ho.toOkB hr hLL (fun i hi => by obtain ⟨p, h1, h2, h3⟩ := affA_mem hi; exact ⟨p, h1, h3⟩) hE hE2)
 have CQ2 := Lib.hid (fun W (hW : Below w.heap.size w W) (ad : Option Addr) (c : Nat) (hr : W.ownsRow w.heap.size 112 1 (.slice ad (affA a bt t0 t1 r).length c) (affA a bt t0 t1 r).length ((affA a bt t0 t1 r).map (pkPtr (.slice pa g.qs.length cp)))) => rcon2_any (h.step hW) ho.toOkB hr hLL (fun i hi => by obtain ⟨p, h1, h2, h3⟩ := affA_mem hi; exact ⟨p, h1, h3⟩))
 have CL := Lib.hid (fun W (hW : Below w.heap.size w W) => Left_any (h.ra.step hW) hok b)
 rw [hbks] at CB
 rw [hla] at CL
 have HO := Lib.hid ho
 have HX := Lib.hid (blk_new w (.cells #[.int .i64 t] 2))
 have HB := Lib.hid (bAl (W := w) (o := (.cells #[.int .i64 t] 2)))
 clear hok hbks hnp hla hG hs hlen
 rw [decide_eq_false hb] at CB
 clear hb hLL
 clear h ho
 go_enter Tryz.func19, Tryz.ntmps19
 go_upto_region 1 with fail
 generalize w.alloc (.cells #[.int .i64 t] 2) = W0 at *
 have x0 := blk_cell (o := 0) HX.out rfl; have xl := blk_lt HX.out
 go_wp2_with ((first | (go_at_call 56; refine (CV.out _ HB.out).mono ?_; rintro e w1 ⟨rfl, hbn⟩) | (go_at_call 59; refine (CB.out _ HB.out).mono ?_; rintro e w1 ⟨rfl, hbn⟩) | (go_at_call 39; (first | (with_reducible refine (CN1.out _).mono ?_) | (with_reducible refine (CN2.out _).mono ?_)); rintro e w1 ⟨rfl, hbn⟩) | (go_at_call 60; (first | (with_reducible refine (CT1.out _).mono ?_) | (with_reducible refine (CT2.out _).mono ?_) | (with_reducible refine (CT3.out _).mono ?_)); rintro e w1 ⟨rfl, hbn⟩) | (go_at_call 61; refine (CA.out _ HB.out).mono ?_; rintro e w1 ⟨v9, rfl, hrow, hbn⟩; have hr9 := own_low hrow HB.out.size; clear hrow; obtain ⟨av, cv, ev⟩ := row_slice hr9; subst ev; have HR := Lib.hid hr9; clear hr9) | (go_at_call 62; have cq1 := CQ1.out _ HB.out _ _ HR.out x0 xl; have cq2 := CQ2.out _ HB.out _ _ HR.out; (first | (with_reducible refine cq1.mono ?_) | (with_reducible refine cq2.mono ?_)); clear cq1 cq2; rintro e w1 ⟨rfl, hbn⟩; have HR9 := Lib.hid (own_step HR.out hbn); clear HR; have HR := HR9; clear HR9) | (go_at_call 17; refine (CL.out _ HB.out).mono ?_; rintro e w1 ⟨rfl, hbn⟩; have HR9 := Lib.hid (own_step HR.out hbn); clear HR; have HR := HR9; clear HR9)); have HX9 := Lib.hid (blk_step HX.out hbn); have HB9 := Lib.hid (bStep HB.out hbn); clear HX HB hbn x0 xl; have HX := HX9; have HB := HB9; clear HX9 HB9; have x0 := blk_cell (o := 0) HX.out rfl; have xl := blk_lt HX.out)
 exact bodyPost_ret (v := .tuple #[.slice none 0 0, .int .i64 3]) (by simp only [results, Tryz.results19]; go_simp) rfl ⟨_, rfl, ⟨rfl, Or.inl ⟨rfl, rfl⟩⟩, H.out.stay HB.out⟩
set_option maxHeartbeats 4000000 in
set_option maxRecDepth 20000 in
theorem Recall_20 {B R : Nat} {a : RegA} {g : RegS} {vb vp : Value} {w : World} (h : RegV B R vb a g vp w) (ho : OkA a) (hG : Glob0 w) (b t : Int) (bt : ByteArray) (t0 t1 : Int) (r : ByteArray) (hs : bt.size ≤ 1000000 ∧ r.size ≤ 1000000) (hb : 0 ≤ b ∧ b < a.bks.length)  (h0 : nameB bt = false) :
  Calls Tryz.prog 19 #[.pointer (some ⟨R, 0, none⟩), .int .i64 b, .int .i64 t, .string bt, .int .i64 t0, .int .i64 t1, .string r] w fun en w' => ∃ v', en = .returned (.tuple #[v', .int .i64 (recallA a b t bt t0 t1 r).1]) ∧ w'.ownsRow w.heap.size 9 1 v' (recallA a b t bt t0 t1 r).2.1.length ((recallA a b t bt t0 t1 r).2.1.map Value.string) ∧ RegN B R vb (recallA a b t bt t0 t1 r).2.2 g vp w w' := by
 rw [show recallA a b t bt t0 t1 r = (2, [], a) from recallA_2 hb (by simp [h0])]
 dsimp only
 have hok := h.ok ho.toOkB
 have hbks : g.bks = a.bks := by rw [← h.abs]; rfl
 have hlen := h.len
 have hnp := ho.np
 have hla : leftR g b = leftA a b := by rw [left_abs, h.abs]
 have H := Lib.hid h
 obtain ⟨pa, cp, hvp⟩ := h.ra.vpS
 subst hvp
 have hLL := affA_len (bt := bt) (t0 := t0) (t1 := t1) (r := r) ho
 have CV := Lib.hid (fun W (hW : Below w.heap.size w W) => valid_any (h.ra.step hW) hok.pt.1)
 have CB := Lib.hid (fun W (hW : Below w.heap.size w W) => book_any (h.ra.step hW) b)
 have CN1 := Lib.hid (fun W => isName_any bt W (by omega))
 have CN2 := Lib.hid (fun W => isName_any r W (by omega))
 have CT1 := Lib.hid (fun W => isTime_any t W)
 have CT2 := Lib.hid (fun W => isTime_any t0 W)
 have CT3 := Lib.hid (fun W => isTime_any t1 W)
 have CA := Lib.hid (fun W (hW : Below w.heap.size w W) => affected_any (h.step hW) ho (gstep hG hW) bt r t0 t1)
 have CQ1 := Lib.hid (fun W (hW : Below w.heap.size w W) (ad : Option Addr) (c : Nat) (hr : W.ownsRow w.heap.size 112 1 (.slice ad (affA a bt t0 t1 r).length c) (affA a bt t0 t1 r).length ((affA a bt t0 t1 r).map (pkPtr (.slice pa g.qs.length cp)))) (hE : W.cell? ⟨w.heap.size, 0, none⟩ = some (.int .i64 t)) (hE2 : w.heap.size < W.heap.size) => rcon1_any (h.step hW) ho.toOkB hr hLL (fun i hi => by obtain ⟨p, h1, h2, h3⟩ := affA_mem hi; exact ⟨p, h1, h3⟩) hE hE2)
 have CQ2 := Lib.hid (fun W (hW : Below w.heap.size w W) (ad : Option Addr) (c : Nat) (hr : W.ownsRow w.heap.size 112 1 (.slice ad (affA a bt t0 t1 r).length c) (affA a bt t0 t1 r).length ((affA a bt t0 t1 r).map (pkPtr (.slice pa g.qs.length cp)))) => rcon2_any (h.step hW) ho.toOkB hr hLL (fun i hi => by obtain ⟨p, h1, h2, h3⟩ := affA_mem hi; exact ⟨p, h1, h3⟩))
 have CL := Lib.hid (fun W (hW : Below w.heap.size w W) => Left_any (h.ra.step hW) hok b)
 rw [hbks] at CB
 rw [hla] at CL
 have HO := Lib.hid ho
 have HX := Lib.hid (blk_new w (.cells #[.int .i64 t] 2))
 have HB := Lib.hid (bAl (W := w) (o := (.cells #[.int .i64 t] 2)))
 clear hok hbks hnp hla hG hs hlen
 rw [decide_eq_true hb] at CB
 rw [h0] at CN1
 clear hb hLL h0
 clear h ho
 go_enter Tryz.func19, Tryz.ntmps19
 go_upto_region 1 with fail
 generalize w.alloc (.cells #[.int .i64 t] 2) = W0 at *
 have x0 := blk_cell (o := 0) HX.out rfl; have xl := blk_lt HX.out
 go_wp2_with ((first | (go_at_call 56; refine (CV.out _ HB.out).mono ?_; rintro e w1 ⟨rfl, hbn⟩) | (go_at_call 59; refine (CB.out _ HB.out).mono ?_; rintro e w1 ⟨rfl, hbn⟩) | (go_at_call 39; (first | (with_reducible refine (CN1.out _).mono ?_) | (with_reducible refine (CN2.out _).mono ?_)); rintro e w1 ⟨rfl, hbn⟩) | (go_at_call 60; (first | (with_reducible refine (CT1.out _).mono ?_) | (with_reducible refine (CT2.out _).mono ?_) | (with_reducible refine (CT3.out _).mono ?_)); rintro e w1 ⟨rfl, hbn⟩) | (go_at_call 61; refine (CA.out _ HB.out).mono ?_; rintro e w1 ⟨v9, rfl, hrow, hbn⟩; have hr9 := own_low hrow HB.out.size; clear hrow; obtain ⟨av, cv, ev⟩ := row_slice hr9; subst ev; have HR := Lib.hid hr9; clear hr9) | (go_at_call 62; have cq1 := CQ1.out _ HB.out _ _ HR.out x0 xl; have cq2 := CQ2.out _ HB.out _ _ HR.out; (first | (with_reducible refine cq1.mono ?_) | (with_reducible refine cq2.mono ?_)); clear cq1 cq2; rintro e w1 ⟨rfl, hbn⟩; have HR9 := Lib.hid (own_step HR.out hbn); clear HR; have HR := HR9; clear HR9) | (go_at_call 17; refine (CL.out _ HB.out).mono ?_; rintro e w1 ⟨rfl, hbn⟩; have HR9 := Lib.hid (own_step HR.out hbn); clear HR; have HR := HR9; clear HR9)); have HX9 := Lib.hid (blk_step HX.out hbn); have HB9 := Lib.hid (bStep HB.out hbn); clear HX HB hbn x0 xl; have HX := HX9; have HB := HB9; clear HX9 HB9; have x0 := blk_cell (o := 0) HX.out rfl; have xl := blk_lt HX.out)
 exact bodyPost_ret (v := .tuple #[.slice none 0 0, .int .i64 2]) (by simp only [results, Tryz.results19]; go_simp) rfl ⟨_, rfl, ⟨rfl, Or.inl ⟨rfl, rfl⟩⟩, H.out.stay HB.out⟩
set_option maxHeartbeats 4000000 in
set_option maxRecDepth 20000 in
theorem Recall_21 {B R : Nat} {a : RegA} {g : RegS} {vb vp : Value} {w : World} (h : RegV B R vb a g vp w) (ho : OkA a) (hG : Glob0 w) (b t : Int) (bt : ByteArray) (t0 t1 : Int) (r : ByteArray) (hs : bt.size ≤ 1000000 ∧ r.size ≤ 1000000) (hb : 0 ≤ b ∧ b < a.bks.length) (h0 : nameB bt = true) (h1 : nameB r = false) :
  Calls Tryz.prog 19 #[.pointer (some ⟨R, 0, none⟩), .int .i64 b, .int .i64 t, .string bt, .int .i64 t0, .int .i64 t1, .string r] w fun en w' => ∃ v', en = .returned (.tuple #[v', .int .i64 (recallA a b t bt t0 t1 r).1]) ∧ w'.ownsRow w.heap.size 9 1 v' (recallA a b t bt t0 t1 r).2.1.length ((recallA a b t bt t0 t1 r).2.1.map Value.string) ∧ RegN B R vb (recallA a b t bt t0 t1 r).2.2 g vp w w' := by
 rw [show recallA a b t bt t0 t1 r = (2, [], a) from recallA_2 hb (by simp [h1])]
 dsimp only
 have hok := h.ok ho.toOkB
 have hbks : g.bks = a.bks := by rw [← h.abs]; rfl
 have hlen := h.len
 have hnp := ho.np
 have hla : leftR g b = leftA a b := by rw [left_abs, h.abs]
 have H := Lib.hid h
 obtain ⟨pa, cp, hvp⟩ := h.ra.vpS
 subst hvp
 have hLL := affA_len (bt := bt) (t0 := t0) (t1 := t1) (r := r) ho
 have CV := Lib.hid (fun W (hW : Below w.heap.size w W) => valid_any (h.ra.step hW) hok.pt.1)
 have CB := Lib.hid (fun W (hW : Below w.heap.size w W) => book_any (h.ra.step hW) b)
 have CN1 := Lib.hid (fun W => isName_any bt W (by omega))
 have CN2 := Lib.hid (fun W => isName_any r W (by omega))
 have CT1 := Lib.hid (fun W => isTime_any t W)
 have CT2 := Lib.hid (fun W => isTime_any t0 W)
 have CT3 := Lib.hid (fun W => isTime_any t1 W)
 have CA := Lib.hid (fun W (hW : Below w.heap.size w W) => affected_any (h.step hW) ho (gstep hG hW) bt r t0 t1)
 have CQ1 := Lib.hid (fun W (hW : Below w.heap.size w W) (ad : Option Addr) (c : Nat) (hr : W.ownsRow w.heap.size 112 1 (.slice ad (affA a bt t0 t1 r).length c) (affA a bt t0 t1 r).length ((affA a bt t0 t1 r).map (pkPtr (.slice pa g.qs.length cp)))) (hE : W.cell? ⟨w.heap.size, 0, none⟩ = some (.int .i64 t)) (hE2 : w.heap.size < W.heap.size) => rcon1_any (h.step hW) ho.toOkB hr hLL (fun i hi => by obtain ⟨p, h1, h2, h3⟩ := affA_mem hi; exact ⟨p, h1, h3⟩) hE hE2)
 have CQ2 := Lib.hid (fun W (hW : Below w.heap.size w W) (ad : Option Addr) (c : Nat) (hr : W.ownsRow w.heap.size 112 1 (.slice ad (affA a bt t0 t1 r).length c) (affA a bt t0 t1 r).length ((affA a bt t0 t1 r).map (pkPtr (.slice pa g.qs.length cp)))) => rcon2_any (h.step hW) ho.toOkB hr hLL (fun i hi => by obtain ⟨p, h1, h2, h3⟩ := affA_mem hi; exact ⟨p, h1, h3⟩))
 have CL := Lib.hid (fun W (hW : Below w.heap.size w W) => Left_any (h.ra.step hW) hok b)
 rw [hbks] at CB
 rw [hla] at CL
 have HO := Lib.hid ho
 have HX := Lib.hid (blk_new w (.cells #[.int .i64 t] 2))
 have HB := Lib.hid (bAl (W := w) (o := (.cells #[.int .i64 t] 2)))
 clear hok hbks hnp hla hG hs hlen
 rw [decide_eq_true hb] at CB
 rw [h0] at CN1
 rw [h1] at CN2
 clear hb hLL h0 h1
 clear h ho
 go_enter Tryz.func19, Tryz.ntmps19
 go_upto_region 1 with fail
 generalize w.alloc (.cells #[.int .i64 t] 2) = W0 at *
 have x0 := blk_cell (o := 0) HX.out rfl; have xl := blk_lt HX.out
 go_wp2_with ((first | (go_at_call 56; refine (CV.out _ HB.out).mono ?_; rintro e w1 ⟨rfl, hbn⟩) | (go_at_call 59; refine (CB.out _ HB.out).mono ?_; rintro e w1 ⟨rfl, hbn⟩) | (go_at_call 39; (first | (with_reducible refine (CN1.out _).mono ?_) | (with_reducible refine (CN2.out _).mono ?_)); rintro e w1 ⟨rfl, hbn⟩) | (go_at_call 60; (first | (with_reducible refine (CT1.out _).mono ?_) | (with_reducible refine (CT2.out _).mono ?_) | (with_reducible refine (CT3.out _).mono ?_)); rintro e w1 ⟨rfl, hbn⟩) | (go_at_call 61; refine (CA.out _ HB.out).mono ?_; rintro e w1 ⟨v9, rfl, hrow, hbn⟩; have hr9 := own_low hrow HB.out.size; clear hrow; obtain ⟨av, cv, ev⟩ := row_slice hr9; subst ev; have HR := Lib.hid hr9; clear hr9) | (go_at_call 62; have cq1 := CQ1.out _ HB.out _ _ HR.out x0 xl; have cq2 := CQ2.out _ HB.out _ _ HR.out; (first | (with_reducible refine cq1.mono ?_) | (with_reducible refine cq2.mono ?_)); clear cq1 cq2; rintro e w1 ⟨rfl, hbn⟩; have HR9 := Lib.hid (own_step HR.out hbn); clear HR; have HR := HR9; clear HR9) | (go_at_call 17; refine (CL.out _ HB.out).mono ?_; rintro e w1 ⟨rfl, hbn⟩; have HR9 := Lib.hid (own_step HR.out hbn); clear HR; have HR := HR9; clear HR9)); have HX9 := Lib.hid (blk_step HX.out hbn); have HB9 := Lib.hid (bStep HB.out hbn); clear HX HB hbn x0 xl; have HX := HX9; have HB := HB9; clear HX9 HB9; have x0 := blk_cell (o := 0) HX.out rfl; have xl := blk_lt HX.out)
 exact bodyPost_ret (v := .tuple #[.slice none 0 0, .int .i64 2]) (by simp only [results, Tryz.results19]; go_simp) rfl ⟨_, rfl, ⟨rfl, Or.inl ⟨rfl, rfl⟩⟩, H.out.stay HB.out⟩
set_option maxHeartbeats 4000000 in
set_option maxRecDepth 20000 in
theorem Recall_22 {B R : Nat} {a : RegA} {g : RegS} {vb vp : Value} {w : World} (h : RegV B R vb a g vp w) (ho : OkA a) (hG : Glob0 w) (b t : Int) (bt : ByteArray) (t0 t1 : Int) (r : ByteArray) (hs : bt.size ≤ 1000000 ∧ r.size ≤ 1000000) (hb : 0 ≤ b ∧ b < a.bks.length) (h0 : nameB bt = true) (h1 : nameB r = true) (h2 : timeB t = false) :
  Calls Tryz.prog 19 #[.pointer (some ⟨R, 0, none⟩), .int .i64 b, .int .i64 t, .string bt, .int .i64 t0, .int .i64 t1, .string r] w fun en w' => ∃ v', en = .returned (.tuple #[v', .int .i64 (recallA a b t bt t0 t1 r).1]) ∧ w'.ownsRow w.heap.size 9 1 v' (recallA a b t bt t0 t1 r).2.1.length ((recallA a b t bt t0 t1 r).2.1.map Value.string) ∧ RegN B R vb (recallA a b t bt t0 t1 r).2.2 g vp w w' := by
 rw [show recallA a b t bt t0 t1 r = (2, [], a) from recallA_2 hb (by simp [h2])]
 dsimp only
 have hok := h.ok ho.toOkB
 have hbks : g.bks = a.bks := by rw [← h.abs]; rfl
 have hlen := h.len
 have hnp := ho.np
 have hla : leftR g b = leftA a b := by rw [left_abs, h.abs]
 have H := Lib.hid h
 obtain ⟨pa, cp, hvp⟩ := h.ra.vpS
 subst hvp
 have hLL := affA_len (bt := bt) (t0 := t0) (t1 := t1) (r := r) ho
 have CV := Lib.hid (fun W (hW : Below w.heap.size w W) => valid_any (h.ra.step hW) hok.pt.1)
 have CB := Lib.hid (fun W (hW : Below w.heap.size w W) => book_any (h.ra.step hW) b)
 have CN1 := Lib.hid (fun W => isName_any bt W (by omega))
 have CN2 := Lib.hid (fun W => isName_any r W (by omega))
 have CT1 := Lib.hid (fun W => isTime_any t W)
 have CT2 := Lib.hid (fun W => isTime_any t0 W)
 have CT3 := Lib.hid (fun W => isTime_any t1 W)
 have CA := Lib.hid (fun W (hW : Below w.heap.size w W) => affected_any (h.step hW) ho (gstep hG hW) bt r t0 t1)
 have CQ1 := Lib.hid (fun W (hW : Below w.heap.size w W) (ad : Option Addr) (c : Nat) (hr : W.ownsRow w.heap.size 112 1 (.slice ad (affA a bt t0 t1 r).length c) (affA a bt t0 t1 r).length ((affA a bt t0 t1 r).map (pkPtr (.slice pa g.qs.length cp)))) (hE : W.cell? ⟨w.heap.size, 0, none⟩ = some (.int .i64 t)) (hE2 : w.heap.size < W.heap.size) => rcon1_any (h.step hW) ho.toOkB hr hLL (fun i hi => by obtain ⟨p, h1, h2, h3⟩ := affA_mem hi; exact ⟨p, h1, h3⟩) hE hE2)
 have CQ2 := Lib.hid (fun W (hW : Below w.heap.size w W) (ad : Option Addr) (c : Nat) (hr : W.ownsRow w.heap.size 112 1 (.slice ad (affA a bt t0 t1 r).length c) (affA a bt t0 t1 r).length ((affA a bt t0 t1 r).map (pkPtr (.slice pa g.qs.length cp)))) => rcon2_any (h.step hW) ho.toOkB hr hLL (fun i hi => by obtain ⟨p, h1, h2, h3⟩ := affA_mem hi; exact ⟨p, h1, h3⟩))
 have CL := Lib.hid (fun W (hW : Below w.heap.size w W) => Left_any (h.ra.step hW) hok b)
 rw [hbks] at CB
 rw [hla] at CL
 have HO := Lib.hid ho
 have HX := Lib.hid (blk_new w (.cells #[.int .i64 t] 2))
 have HB := Lib.hid (bAl (W := w) (o := (.cells #[.int .i64 t] 2)))
 clear hok hbks hnp hla hG hs hlen
 rw [decide_eq_true hb] at CB
 rw [h0] at CN1
 rw [h1] at CN2
 rw [h2] at CT1
 clear hb hLL h0 h1 h2
 clear h ho
 go_enter Tryz.func19, Tryz.ntmps19
 go_upto_region 1 with fail
 generalize w.alloc (.cells #[.int .i64 t] 2) = W0 at *
 have x0 := blk_cell (o := 0) HX.out rfl; have xl := blk_lt HX.out
 go_wp2_with ((first | (go_at_call 56; refine (CV.out _ HB.out).mono ?_; rintro e w1 ⟨rfl, hbn⟩) | (go_at_call 59; refine (CB.out _ HB.out).mono ?_; rintro e w1 ⟨rfl, hbn⟩) | (go_at_call 39; (first | (with_reducible refine (CN1.out _).mono ?_) | (with_reducible refine (CN2.out _).mono ?_)); rintro e w1 ⟨rfl, hbn⟩) | (go_at_call 60; (first | (with_reducible refine (CT1.out _).mono ?_) | (with_reducible refine (CT2.out _).mono ?_) | (with_reducible refine (CT3.out _).mono ?_)); rintro e w1 ⟨rfl, hbn⟩) | (go_at_call 61; refine (CA.out _ HB.out).mono ?_; rintro e w1 ⟨v9, rfl, hrow, hbn⟩; have hr9 := own_low hrow HB.out.size; clear hrow; obtain ⟨av, cv, ev⟩ := row_slice hr9; subst ev; have HR := Lib.hid hr9; clear hr9) | (go_at_call 62; have cq1 := CQ1.out _ HB.out _ _ HR.out x0 xl; have cq2 := CQ2.out _ HB.out _ _ HR.out; (first | (with_reducible refine cq1.mono ?_) | (with_reducible refine cq2.mono ?_)); clear cq1 cq2; rintro e w1 ⟨rfl, hbn⟩; have HR9 := Lib.hid (own_step HR.out hbn); clear HR; have HR := HR9; clear HR9) | (go_at_call 17; refine (CL.out _ HB.out).mono ?_; rintro e w1 ⟨rfl, hbn⟩; have HR9 := Lib.hid (own_step HR.out hbn); clear HR; have HR := HR9; clear HR9)); have HX9 := Lib.hid (blk_step HX.out hbn); have HB9 := Lib.hid (bStep HB.out hbn); clear HX HB hbn x0 xl; have HX := HX9; have HB := HB9; clear HX9 HB9; have x0 := blk_cell (o := 0) HX.out rfl; have xl := blk_lt HX.out)
 exact bodyPost_ret (v := .tuple #[.slice none 0 0, .int .i64 2]) (by simp only [results, Tryz.results19]; go_simp) rfl ⟨_, rfl, ⟨rfl, Or.inl ⟨rfl, rfl⟩⟩, H.out.stay HB.out⟩
set_option maxHeartbeats 4000000 in
set_option maxRecDepth 20000 in
theorem Recall_23 {B R : Nat} {a : RegA} {g : RegS} {vb vp : Value} {w : World} (h : RegV B R vb a g vp w) (ho : OkA a) (hG : Glob0 w) (b t : Int) (bt : ByteArray) (t0 t1 : Int) (r : ByteArray) (hs : bt.size ≤ 1000000 ∧ r.size ≤ 1000000) (hb : 0 ≤ b ∧ b < a.bks.length) (h0 : nameB bt = true) (h1 : nameB r = true) (h2 : timeB t = true) (h3 : timeB t0 = false) :
  Calls Tryz.prog 19 #[.pointer (some ⟨R, 0, none⟩), .int .i64 b, .int .i64 t, .string bt, .int .i64 t0, .int .i64 t1, .string r] w fun en w' => ∃ v', en = .returned (.tuple #[v', .int .i64 (recallA a b t bt t0 t1 r).1]) ∧ w'.ownsRow w.heap.size 9 1 v' (recallA a b t bt t0 t1 r).2.1.length ((recallA a b t bt t0 t1 r).2.1.map Value.string) ∧ RegN B R vb (recallA a b t bt t0 t1 r).2.2 g vp w w' := by
 rw [show recallA a b t bt t0 t1 r = (2, [], a) from recallA_2 hb (by simp [h3])]
 dsimp only
 have hok := h.ok ho.toOkB
 have hbks : g.bks = a.bks := by rw [← h.abs]; rfl
 have hlen := h.len
 have hnp := ho.np
 have hla : leftR g b = leftA a b := by rw [left_abs, h.abs]
 have H := Lib.hid h
 obtain ⟨pa, cp, hvp⟩ := h.ra.vpS
 subst hvp
 have hLL := affA_len (bt := bt) (t0 := t0) (t1 := t1) (r := r) ho
 have CV := Lib.hid (fun W (hW : Below w.heap.size w W) => valid_any (h.ra.step hW) hok.pt.1)
 have CB := Lib.hid (fun W (hW : Below w.heap.size w W) => book_any (h.ra.step hW) b)
 have CN1 := Lib.hid (fun W => isName_any bt W (by omega))
 have CN2 := Lib.hid (fun W => isName_any r W (by omega))
 have CT1 := Lib.hid (fun W => isTime_any t W)
 have CT2 := Lib.hid (fun W => isTime_any t0 W)
 have CT3 := Lib.hid (fun W => isTime_any t1 W)
 have CA := Lib.hid (fun W (hW : Below w.heap.size w W) => affected_any (h.step hW) ho (gstep hG hW) bt r t0 t1)
 have CQ1 := Lib.hid (fun W (hW : Below w.heap.size w W) (ad : Option Addr) (c : Nat) (hr : W.ownsRow w.heap.size 112 1 (.slice ad (affA a bt t0 t1 r).length c) (affA a bt t0 t1 r).length ((affA a bt t0 t1 r).map (pkPtr (.slice pa g.qs.length cp)))) (hE : W.cell? ⟨w.heap.size, 0, none⟩ = some (.int .i64 t)) (hE2 : w.heap.size < W.heap.size) => rcon1_any (h.step hW) ho.toOkB hr hLL (fun i hi => by obtain ⟨p, h1, h2, h3⟩ := affA_mem hi; exact ⟨p, h1, h3⟩) hE hE2)
 have CQ2 := Lib.hid (fun W (hW : Below w.heap.size w W) (ad : Option Addr) (c : Nat) (hr : W.ownsRow w.heap.size 112 1 (.slice ad (affA a bt t0 t1 r).length c) (affA a bt t0 t1 r).length ((affA a bt t0 t1 r).map (pkPtr (.slice pa g.qs.length cp)))) => rcon2_any (h.step hW) ho.toOkB hr hLL (fun i hi => by obtain ⟨p, h1, h2, h3⟩ := affA_mem hi; exact ⟨p, h1, h3⟩))
 have CL := Lib.hid (fun W (hW : Below w.heap.size w W) => Left_any (h.ra.step hW) hok b)
 rw [hbks] at CB
 rw [hla] at CL
 have HO := Lib.hid ho
 have HX := Lib.hid (blk_new w (.cells #[.int .i64 t] 2))
 have HB := Lib.hid (bAl (W := w) (o := (.cells #[.int .i64 t] 2)))
 clear hok hbks hnp hla hG hs hlen
 rw [decide_eq_true hb] at CB
 rw [h0] at CN1
 rw [h1] at CN2
 rw [h2] at CT1
 rw [h3] at CT2
 clear hb hLL h0 h1 h2 h3
 clear h ho
 go_enter Tryz.func19, Tryz.ntmps19
 go_upto_region 1 with fail
 generalize w.alloc (.cells #[.int .i64 t] 2) = W0 at *
 have x0 := blk_cell (o := 0) HX.out rfl; have xl := blk_lt HX.out
 go_wp2_with ((first | (go_at_call 56; refine (CV.out _ HB.out).mono ?_; rintro e w1 ⟨rfl, hbn⟩) | (go_at_call 59; refine (CB.out _ HB.out).mono ?_; rintro e w1 ⟨rfl, hbn⟩) | (go_at_call 39; (first | (with_reducible refine (CN1.out _).mono ?_) | (with_reducible refine (CN2.out _).mono ?_)); rintro e w1 ⟨rfl, hbn⟩) | (go_at_call 60; (first | (with_reducible refine (CT1.out _).mono ?_) | (with_reducible refine (CT2.out _).mono ?_) | (with_reducible refine (CT3.out _).mono ?_)); rintro e w1 ⟨rfl, hbn⟩) | (go_at_call 61; refine (CA.out _ HB.out).mono ?_; rintro e w1 ⟨v9, rfl, hrow, hbn⟩; have hr9 := own_low hrow HB.out.size; clear hrow; obtain ⟨av, cv, ev⟩ := row_slice hr9; subst ev; have HR := Lib.hid hr9; clear hr9) | (go_at_call 62; have cq1 := CQ1.out _ HB.out _ _ HR.out x0 xl; have cq2 := CQ2.out _ HB.out _ _ HR.out; (first | (with_reducible refine cq1.mono ?_) | (with_reducible refine cq2.mono ?_)); clear cq1 cq2; rintro e w1 ⟨rfl, hbn⟩; have HR9 := Lib.hid (own_step HR.out hbn); clear HR; have HR := HR9; clear HR9) | (go_at_call 17; refine (CL.out _ HB.out).mono ?_; rintro e w1 ⟨rfl, hbn⟩; have HR9 := Lib.hid (own_step HR.out hbn); clear HR; have HR := HR9; clear HR9)); have HX9 := Lib.hid (blk_step HX.out hbn); have HB9 := Lib.hid (bStep HB.out hbn); clear HX HB hbn x0 xl; have HX := HX9; have HB := HB9; clear HX9 HB9; have x0 := blk_cell (o := 0) HX.out rfl; have xl := blk_lt HX.out)
 exact bodyPost_ret (v := .tuple #[.slice none 0 0, .int .i64 2]) (by simp only [results, Tryz.results19]; go_simp) rfl ⟨_, rfl, ⟨rfl, Or.inl ⟨rfl, rfl⟩⟩, H.out.stay HB.out⟩
set_option maxHeartbeats 4000000 in
set_option maxRecDepth 20000 in
theorem Recall_24 {B R : Nat} {a : RegA} {g : RegS} {vb vp : Value} {w : World} (h : RegV B R vb a g vp w) (ho : OkA a) (hG : Glob0 w) (b t : Int) (bt : ByteArray) (t0 t1 : Int) (r : ByteArray) (hs : bt.size ≤ 1000000 ∧ r.size ≤ 1000000) (hb : 0 ≤ b ∧ b < a.bks.length) (h0 : nameB bt = true) (h1 : nameB r = true) (h2 : timeB t = true) (h3 : timeB t0 = true) (h4 : timeB t1 = false) :
  Calls Tryz.prog 19 #[.pointer (some ⟨R, 0, none⟩), .int .i64 b, .int .i64 t, .string bt, .int .i64 t0, .int .i64 t1, .string r] w fun en w' => ∃ v', en = .returned (.tuple #[v', .int .i64 (recallA a b t bt t0 t1 r).1]) ∧ w'.ownsRow w.heap.size 9 1 v' (recallA a b t bt t0 t1 r).2.1.length ((recallA a b t bt t0 t1 r).2.1.map Value.string) ∧ RegN B R vb (recallA a b t bt t0 t1 r).2.2 g vp w w' := by
 rw [show recallA a b t bt t0 t1 r = (2, [], a) from recallA_2 hb (by simp [h4])]
 dsimp only
 have hok := h.ok ho.toOkB
 have hbks : g.bks = a.bks := by rw [← h.abs]; rfl
 have hlen := h.len
 have hnp := ho.np
 have hla : leftR g b = leftA a b := by rw [left_abs, h.abs]
 have H := Lib.hid h
 obtain ⟨pa, cp, hvp⟩ := h.ra.vpS
 subst hvp
 have hLL := affA_len (bt := bt) (t0 := t0) (t1 := t1) (r := r) ho
 have CV := Lib.hid (fun W (hW : Below w.heap.size w W) => valid_any (h.ra.step hW) hok.pt.1)
 have CB := Lib.hid (fun W (hW : Below w.heap.size w W) => book_any (h.ra.step hW) b)
 have CN1 := Lib.hid (fun W => isName_any bt W (by omega))
 have CN2 := Lib.hid (fun W => isName_any r W (by omega))
 have CT1 := Lib.hid (fun W => isTime_any t W)
 have CT2 := Lib.hid (fun W => isTime_any t0 W)
 have CT3 := Lib.hid (fun W => isTime_any t1 W)
 have CA := Lib.hid (fun W (hW : Below w.heap.size w W) => affected_any (h.step hW) ho (gstep hG hW) bt r t0 t1)
 have CQ1 := Lib.hid (fun W (hW : Below w.heap.size w W) (ad : Option Addr) (c : Nat) (hr : W.ownsRow w.heap.size 112 1 (.slice ad (affA a bt t0 t1 r).length c) (affA a bt t0 t1 r).length ((affA a bt t0 t1 r).map (pkPtr (.slice pa g.qs.length cp)))) (hE : W.cell? ⟨w.heap.size, 0, none⟩ = some (.int .i64 t)) (hE2 : w.heap.size < W.heap.size) => rcon1_any (h.step hW) ho.toOkB hr hLL (fun i hi => by obtain ⟨p, h1, h2, h3⟩ := affA_mem hi; exact ⟨p, h1, h3⟩) hE hE2)
 have CQ2 := Lib.hid (fun W (hW : Below w.heap.size w W) (ad : Option Addr) (c : Nat) (hr : W.ownsRow w.heap.size 112 1 (.slice ad (affA a bt t0 t1 r).length c) (affA a bt t0 t1 r).length ((affA a bt t0 t1 r).map (pkPtr (.slice pa g.qs.length cp)))) => rcon2_any (h.step hW) ho.toOkB hr hLL (fun i hi => by obtain ⟨p, h1, h2, h3⟩ := affA_mem hi; exact ⟨p, h1, h3⟩))
 have CL := Lib.hid (fun W (hW : Below w.heap.size w W) => Left_any (h.ra.step hW) hok b)
 rw [hbks] at CB
 rw [hla] at CL
 have HO := Lib.hid ho
 have HX := Lib.hid (blk_new w (.cells #[.int .i64 t] 2))
 have HB := Lib.hid (bAl (W := w) (o := (.cells #[.int .i64 t] 2)))
 clear hok hbks hnp hla hG hs hlen
 rw [decide_eq_true hb] at CB
 rw [h0] at CN1
 rw [h1] at CN2
 rw [h2] at CT1
 rw [h3] at CT2
 rw [h4] at CT3
 clear hb hLL h0 h1 h2 h3 h4
 clear h ho
 go_enter Tryz.func19, Tryz.ntmps19
 go_upto_region 1 with fail
 generalize w.alloc (.cells #[.int .i64 t] 2) = W0 at *
 have x0 := blk_cell (o := 0) HX.out rfl; have xl := blk_lt HX.out
 go_wp2_with ((first | (go_at_call 56; refine (CV.out _ HB.out).mono ?_; rintro e w1 ⟨rfl, hbn⟩) | (go_at_call 59; refine (CB.out _ HB.out).mono ?_; rintro e w1 ⟨rfl, hbn⟩) | (go_at_call 39; (first | (with_reducible refine (CN1.out _).mono ?_) | (with_reducible refine (CN2.out _).mono ?_)); rintro e w1 ⟨rfl, hbn⟩) | (go_at_call 60; (first | (with_reducible refine (CT1.out _).mono ?_) | (with_reducible refine (CT2.out _).mono ?_) | (with_reducible refine (CT3.out _).mono ?_)); rintro e w1 ⟨rfl, hbn⟩) | (go_at_call 61; refine (CA.out _ HB.out).mono ?_; rintro e w1 ⟨v9, rfl, hrow, hbn⟩; have hr9 := own_low hrow HB.out.size; clear hrow; obtain ⟨av, cv, ev⟩ := row_slice hr9; subst ev; have HR := Lib.hid hr9; clear hr9) | (go_at_call 62; have cq1 := CQ1.out _ HB.out _ _ HR.out x0 xl; have cq2 := CQ2.out _ HB.out _ _ HR.out; (first | (with_reducible refine cq1.mono ?_) | (with_reducible refine cq2.mono ?_)); clear cq1 cq2; rintro e w1 ⟨rfl, hbn⟩; have HR9 := Lib.hid (own_step HR.out hbn); clear HR; have HR := HR9; clear HR9) | (go_at_call 17; refine (CL.out _ HB.out).mono ?_; rintro e w1 ⟨rfl, hbn⟩; have HR9 := Lib.hid (own_step HR.out hbn); clear HR; have HR := HR9; clear HR9)); have HX9 := Lib.hid (blk_step HX.out hbn); have HB9 := Lib.hid (bStep HB.out hbn); clear HX HB hbn x0 xl; have HX := HX9; have HB := HB9; clear HX9 HB9; have x0 := blk_cell (o := 0) HX.out rfl; have xl := blk_lt HX.out)
 exact bodyPost_ret (v := .tuple #[.slice none 0 0, .int .i64 2]) (by simp only [results, Tryz.results19]; go_simp) rfl ⟨_, rfl, ⟨rfl, Or.inl ⟨rfl, rfl⟩⟩, H.out.stay HB.out⟩
set_option maxHeartbeats 4000000 in
set_option maxRecDepth 20000 in
theorem Recall_3 {B R : Nat} {a : RegA} {g : RegS} {vb vp : Value} {w : World} (h : RegV B R vb a g vp w) (ho : OkA a) (hG : Glob0 w) (b t : Int) (bt : ByteArray) (t0 t1 : Int) (r : ByteArray) (hs : bt.size ≤ 1000000 ∧ r.size ≤ 1000000) (hb : 0 ≤ b ∧ b < a.bks.length) (hv : nameB bt = true ∧ nameB r = true ∧ timeB t = true ∧ timeB t0 = true ∧ timeB t1 = true) (h1 : (affA a bt t0 t1 r).any (fun i => decide (t < (lf (packA a i)).at_)) = true) :
  Calls Tryz.prog 19 #[.pointer (some ⟨R, 0, none⟩), .int .i64 b, .int .i64 t, .string bt, .int .i64 t0, .int .i64 t1, .string r] w fun en w' => ∃ v', en = .returned (.tuple #[v', .int .i64 (recallA a b t bt t0 t1 r).1]) ∧ w'.ownsRow w.heap.size 9 1 v' (recallA a b t bt t0 t1 r).2.1.length ((recallA a b t bt t0 t1 r).2.1.map Value.string) ∧ RegN B R vb (recallA a b t bt t0 t1 r).2.2 g vp w w' := by
 rw [show recallA a b t bt t0 t1 r = (10, [], a) from by rw [recallA_3 hb hv, if_pos h1]]
 dsimp only
 have hok := h.ok ho.toOkB
 have hbks : g.bks = a.bks := by rw [← h.abs]; rfl
 have hlen := h.len
 have hnp := ho.np
 have hla : leftR g b = leftA a b := by rw [left_abs, h.abs]
 have H := Lib.hid h
 obtain ⟨pa, cp, hvp⟩ := h.ra.vpS
 subst hvp
 have hLL := affA_len (bt := bt) (t0 := t0) (t1 := t1) (r := r) ho
 have CV := Lib.hid (fun W (hW : Below w.heap.size w W) => valid_any (h.ra.step hW) hok.pt.1)
 have CB := Lib.hid (fun W (hW : Below w.heap.size w W) => book_any (h.ra.step hW) b)
 have CN1 := Lib.hid (fun W => isName_any bt W (by omega))
 have CN2 := Lib.hid (fun W => isName_any r W (by omega))
 have CT1 := Lib.hid (fun W => isTime_any t W)
 have CT2 := Lib.hid (fun W => isTime_any t0 W)
 have CT3 := Lib.hid (fun W => isTime_any t1 W)
 have CA := Lib.hid (fun W (hW : Below w.heap.size w W) => affected_any (h.step hW) ho (gstep hG hW) bt r t0 t1)
 have CQ1 := Lib.hid (fun W (hW : Below w.heap.size w W) (ad : Option Addr) (c : Nat) (hr : W.ownsRow w.heap.size 112 1 (.slice ad (affA a bt t0 t1 r).length c) (affA a bt t0 t1 r).length ((affA a bt t0 t1 r).map (pkPtr (.slice pa g.qs.length cp)))) (hE : W.cell? ⟨w.heap.size, 0, none⟩ = some (.int .i64 t)) (hE2 : w.heap.size < W.heap.size) => rcon1_any (h.step hW) ho.toOkB hr hLL (fun i hi => by obtain ⟨p, h1, h2, h3⟩ := affA_mem hi; exact ⟨p, h1, h3⟩) hE hE2)
 have CQ2 := Lib.hid (fun W (hW : Below w.heap.size w W) (ad : Option Addr) (c : Nat) (hr : W.ownsRow w.heap.size 112 1 (.slice ad (affA a bt t0 t1 r).length c) (affA a bt t0 t1 r).length ((affA a bt t0 t1 r).map (pkPtr (.slice pa g.qs.length cp)))) => rcon2_any (h.step hW) ho.toOkB hr hLL (fun i hi => by obtain ⟨p, h1, h2, h3⟩ := affA_mem hi; exact ⟨p, h1, h3⟩))
 have CL := Lib.hid (fun W (hW : Below w.heap.size w W) => Left_any (h.ra.step hW) hok b)
 rw [hbks] at CB
 rw [hla] at CL
 have HO := Lib.hid ho
 have HX := Lib.hid (blk_new w (.cells #[.int .i64 t] 2))
 have HB := Lib.hid (bAl (W := w) (o := (.cells #[.int .i64 t] 2)))
 clear hok hbks hnp hla hG hs hlen
 rw [decide_eq_true hb] at CB
 rw [hv.1] at CN1
 rw [hv.2.1] at CN2
 rw [hv.2.2.1] at CT1
 rw [hv.2.2.2.1] at CT2
 rw [hv.2.2.2.2] at CT3
 rw [h1] at CQ1
 generalize affA a bt t0 t1 r = L at *
 clear hb hv h1 hLL
 clear h ho
 go_enter Tryz.func19, Tryz.ntmps19
 go_upto_region 1 with fail
 generalize w.alloc (.cells #[.int .i64 t] 2) = W0 at *
 have x0 := blk_cell (o := 0) HX.out rfl; have xl := blk_lt HX.out
 go_wp2_with ((first | (go_at_call 56; refine (CV.out _ HB.out).mono ?_; rintro e w1 ⟨rfl, hbn⟩) | (go_at_call 59; refine (CB.out _ HB.out).mono ?_; rintro e w1 ⟨rfl, hbn⟩) | (go_at_call 39; (first | (with_reducible refine (CN1.out _).mono ?_) | (with_reducible refine (CN2.out _).mono ?_)); rintro e w1 ⟨rfl, hbn⟩) | (go_at_call 60; (first | (with_reducible refine (CT1.out _).mono ?_) | (with_reducible refine (CT2.out _).mono ?_) | (with_reducible refine (CT3.out _).mono ?_)); rintro e w1 ⟨rfl, hbn⟩) | (go_at_call 61; refine (CA.out _ HB.out).mono ?_; rintro e w1 ⟨v9, rfl, hrow, hbn⟩; have hr9 := own_low hrow HB.out.size; clear hrow; obtain ⟨av, cv, ev⟩ := row_slice hr9; subst ev; have HR := Lib.hid hr9; clear hr9) | (go_at_call 62; have cq1 := CQ1.out _ HB.out _ _ HR.out x0 xl; have cq2 := CQ2.out _ HB.out _ _ HR.out; (first | (with_reducible refine cq1.mono ?_) | (with_reducible refine cq2.mono ?_)); clear cq1 cq2; rintro e w1 ⟨rfl, hbn⟩; have HR9 := Lib.hid (own_step HR.out hbn); clear HR; have HR := HR9; clear HR9) | (go_at_call 17; refine (CL.out _ HB.out).mono ?_; rintro e w1 ⟨rfl, hbn⟩; have HR9 := Lib.hid (own_step HR.out hbn); clear HR; have HR := HR9; clear HR9)); have HX9 := Lib.hid (blk_step HX.out hbn); have HB9 := Lib.hid (bStep HB.out hbn); clear HX HB hbn x0 xl; have HX := HX9; have HB := HB9; clear HX9 HB9; have x0 := blk_cell (o := 0) HX.out rfl; have xl := blk_lt HX.out)
 exact bodyPost_ret (v := .tuple #[.slice none 0 0, .int .i64 10]) (by simp only [results, Tryz.results19]; go_simp) rfl ⟨_, rfl, ⟨rfl, Or.inl ⟨rfl, rfl⟩⟩, H.out.stay HB.out⟩
set_option maxHeartbeats 4000000 in
set_option maxRecDepth 20000 in
theorem Recall_4 {B R : Nat} {a : RegA} {g : RegS} {vb vp : Value} {w : World} (h : RegV B R vb a g vp w) (ho : OkA a) (hG : Glob0 w) (b t : Int) (bt : ByteArray) (t0 t1 : Int) (r : ByteArray) (hs : bt.size ≤ 1000000 ∧ r.size ≤ 1000000) (hb : 0 ≤ b ∧ b < a.bks.length) (hv : nameB bt = true ∧ nameB r = true ∧ timeB t = true ∧ timeB t0 = true ∧ timeB t1 = true) (h1 : (affA a bt t0 t1 r).any (fun i => decide (t < (lf (packA a i)).at_)) = false) (h2 : (affA a bt t0 t1 r).any (fun i => decide (500 ≤ (packA a i).2.length)) = true) :
  Calls Tryz.prog 19 #[.pointer (some ⟨R, 0, none⟩), .int .i64 b, .int .i64 t, .string bt, .int .i64 t0, .int .i64 t1, .string r] w fun en w' => ∃ v', en = .returned (.tuple #[v', .int .i64 (recallA a b t bt t0 t1 r).1]) ∧ w'.ownsRow w.heap.size 9 1 v' (recallA a b t bt t0 t1 r).2.1.length ((recallA a b t bt t0 t1 r).2.1.map Value.string) ∧ RegN B R vb (recallA a b t bt t0 t1 r).2.2 g vp w w' := by
 rw [show recallA a b t bt t0 t1 r = (11, [], a) from by rw [recallA_3 hb hv, if_neg (by rw [h1]; decide), if_pos h2]]
 dsimp only
 have hok := h.ok ho.toOkB
 have hbks : g.bks = a.bks := by rw [← h.abs]; rfl
 have hlen := h.len
 have hnp := ho.np
 have hla : leftR g b = leftA a b := by rw [left_abs, h.abs]
 have H := Lib.hid h
 obtain ⟨pa, cp, hvp⟩ := h.ra.vpS
 subst hvp
 have hLL := affA_len (bt := bt) (t0 := t0) (t1 := t1) (r := r) ho
 have CV := Lib.hid (fun W (hW : Below w.heap.size w W) => valid_any (h.ra.step hW) hok.pt.1)
 have CB := Lib.hid (fun W (hW : Below w.heap.size w W) => book_any (h.ra.step hW) b)
 have CN1 := Lib.hid (fun W => isName_any bt W (by omega))
 have CN2 := Lib.hid (fun W => isName_any r W (by omega))
 have CT1 := Lib.hid (fun W => isTime_any t W)
 have CT2 := Lib.hid (fun W => isTime_any t0 W)
 have CT3 := Lib.hid (fun W => isTime_any t1 W)
 have CA := Lib.hid (fun W (hW : Below w.heap.size w W) => affected_any (h.step hW) ho (gstep hG hW) bt r t0 t1)
 have CQ1 := Lib.hid (fun W (hW : Below w.heap.size w W) (ad : Option Addr) (c : Nat) (hr : W.ownsRow w.heap.size 112 1 (.slice ad (affA a bt t0 t1 r).length c) (affA a bt t0 t1 r).length ((affA a bt t0 t1 r).map (pkPtr (.slice pa g.qs.length cp)))) (hE : W.cell? ⟨w.heap.size, 0, none⟩ = some (.int .i64 t)) (hE2 : w.heap.size < W.heap.size) => rcon1_any (h.step hW) ho.toOkB hr hLL (fun i hi => by obtain ⟨p, h1, h2, h3⟩ := affA_mem hi; exact ⟨p, h1, h3⟩) hE hE2)
 have CQ2 := Lib.hid (fun W (hW : Below w.heap.size w W) (ad : Option Addr) (c : Nat) (hr : W.ownsRow w.heap.size 112 1 (.slice ad (affA a bt t0 t1 r).length c) (affA a bt t0 t1 r).length ((affA a bt t0 t1 r).map (pkPtr (.slice pa g.qs.length cp)))) => rcon2_any (h.step hW) ho.toOkB hr hLL (fun i hi => by obtain ⟨p, h1, h2, h3⟩ := affA_mem hi; exact ⟨p, h1, h3⟩))
 have CL := Lib.hid (fun W (hW : Below w.heap.size w W) => Left_any (h.ra.step hW) hok b)
 rw [hbks] at CB
 rw [hla] at CL
 have HO := Lib.hid ho
 have HX := Lib.hid (blk_new w (.cells #[.int .i64 t] 2))
 have HB := Lib.hid (bAl (W := w) (o := (.cells #[.int .i64 t] 2)))
 clear hok hbks hnp hla hG hs hlen
 rw [decide_eq_true hb] at CB
 rw [hv.1] at CN1
 rw [hv.2.1] at CN2
 rw [hv.2.2.1] at CT1
 rw [hv.2.2.2.1] at CT2
 rw [hv.2.2.2.2] at CT3
 rw [h1] at CQ1
 rw [h2] at CQ2
 generalize affA a bt t0 t1 r = L at *
 clear hb hv h1 h2 hLL
 clear h ho
 go_enter Tryz.func19, Tryz.ntmps19
 go_upto_region 1 with fail
 generalize w.alloc (.cells #[.int .i64 t] 2) = W0 at *
 have x0 := blk_cell (o := 0) HX.out rfl; have xl := blk_lt HX.out
 go_wp2_with ((first | (go_at_call 56; refine (CV.out _ HB.out).mono ?_; rintro e w1 ⟨rfl, hbn⟩) | (go_at_call 59; refine (CB.out _ HB.out).mono ?_; rintro e w1 ⟨rfl, hbn⟩) | (go_at_call 39; (first | (with_reducible refine (CN1.out _).mono ?_) | (with_reducible refine (CN2.out _).mono ?_)); rintro e w1 ⟨rfl, hbn⟩) | (go_at_call 60; (first | (with_reducible refine (CT1.out _).mono ?_) | (with_reducible refine (CT2.out _).mono ?_) | (with_reducible refine (CT3.out _).mono ?_)); rintro e w1 ⟨rfl, hbn⟩) | (go_at_call 61; refine (CA.out _ HB.out).mono ?_; rintro e w1 ⟨v9, rfl, hrow, hbn⟩; have hr9 := own_low hrow HB.out.size; clear hrow; obtain ⟨av, cv, ev⟩ := row_slice hr9; subst ev; have HR := Lib.hid hr9; clear hr9) | (go_at_call 62; have cq1 := CQ1.out _ HB.out _ _ HR.out x0 xl; have cq2 := CQ2.out _ HB.out _ _ HR.out; (first | (with_reducible refine cq1.mono ?_) | (with_reducible refine cq2.mono ?_)); clear cq1 cq2; rintro e w1 ⟨rfl, hbn⟩; have HR9 := Lib.hid (own_step HR.out hbn); clear HR; have HR := HR9; clear HR9) | (go_at_call 17; refine (CL.out _ HB.out).mono ?_; rintro e w1 ⟨rfl, hbn⟩; have HR9 := Lib.hid (own_step HR.out hbn); clear HR; have HR := HR9; clear HR9)); have HX9 := Lib.hid (blk_step HX.out hbn); have HB9 := Lib.hid (bStep HB.out hbn); clear HX HB hbn x0 xl; have HX := HX9; have HB := HB9; clear HX9 HB9; have x0 := blk_cell (o := 0) HX.out rfl; have xl := blk_lt HX.out)
 exact bodyPost_ret (v := .tuple #[.slice none 0 0, .int .i64 11]) (by simp only [results, Tryz.results19]; go_simp) rfl ⟨_, rfl, ⟨rfl, Or.inl ⟨rfl, rfl⟩⟩, H.out.stay HB.out⟩
set_option maxHeartbeats 4000000 in
set_option maxRecDepth 20000 in
theorem Recall_5 {B R : Nat} {a : RegA} {g : RegS} {vb vp : Value} {w : World} (h : RegV B R vb a g vp w) (ho : OkA a) (hG : Glob0 w) (b t : Int) (bt : ByteArray) (t0 t1 : Int) (r : ByteArray) (hs : bt.size ≤ 1000000 ∧ r.size ≤ 1000000) (hb : 0 ≤ b ∧ b < a.bks.length) (hv : nameB bt = true ∧ nameB r = true ∧ timeB t = true ∧ timeB t0 = true ∧ timeB t1 = true) (h1 : (affA a bt t0 t1 r).any (fun i => decide (t < (lf (packA a i)).at_)) = false) (h2 : (affA a bt t0 t1 r).any (fun i => decide (500 ≤ (packA a i).2.length)) = false) (h3 : leftA a b < (affA a bt t0 t1 r).length) :
  Calls Tryz.prog 19 #[.pointer (some ⟨R, 0, none⟩), .int .i64 b, .int .i64 t, .string bt, .int .i64 t0, .int .i64 t1, .string r] w fun en w' => ∃ v', en = .returned (.tuple #[v', .int .i64 (recallA a b t bt t0 t1 r).1]) ∧ w'.ownsRow w.heap.size 9 1 v' (recallA a b t bt t0 t1 r).2.1.length ((recallA a b t bt t0 t1 r).2.1.map Value.string) ∧ RegN B R vb (recallA a b t bt t0 t1 r).2.2 g vp w w' := by
 rw [show recallA a b t bt t0 t1 r = (4, [], a) from by rw [recallA_3 hb hv, if_neg (by rw [h1]; decide), if_neg (by rw [h2]; decide), if_pos h3]]
 dsimp only
 have hok := h.ok ho.toOkB
 have hbks : g.bks = a.bks := by rw [← h.abs]; rfl
 have hlen := h.len
 have hnp := ho.np
 have hla : leftR g b = leftA a b := by rw [left_abs, h.abs]
 have H := Lib.hid h
 obtain ⟨pa, cp, hvp⟩ := h.ra.vpS
 subst hvp
 have hLL := affA_len (bt := bt) (t0 := t0) (t1 := t1) (r := r) ho
 have CV := Lib.hid (fun W (hW : Below w.heap.size w W) => valid_any (h.ra.step hW) hok.pt.1)
 have CB := Lib.hid (fun W (hW : Below w.heap.size w W) => book_any (h.ra.step hW) b)
 have CN1 := Lib.hid (fun W => isName_any bt W (by omega))
 have CN2 := Lib.hid (fun W => isName_any r W (by omega))
 have CT1 := Lib.hid (fun W => isTime_any t W)
 have CT2 := Lib.hid (fun W => isTime_any t0 W)
 have CT3 := Lib.hid (fun W => isTime_any t1 W)
 have CA := Lib.hid (fun W (hW : Below w.heap.size w W) => affected_any (h.step hW) ho (gstep hG hW) bt r t0 t1)
 have CQ1 := Lib.hid (fun W (hW : Below w.heap.size w W) (ad : Option Addr) (c : Nat) (hr : W.ownsRow w.heap.size 112 1 (.slice ad (affA a bt t0 t1 r).length c) (affA a bt t0 t1 r).length ((affA a bt t0 t1 r).map (pkPtr (.slice pa g.qs.length cp)))) (hE : W.cell? ⟨w.heap.size, 0, none⟩ = some (.int .i64 t)) (hE2 : w.heap.size < W.heap.size) => rcon1_any (h.step hW) ho.toOkB hr hLL (fun i hi => by obtain ⟨p, h1, h2, h3⟩ := affA_mem hi; exact ⟨p, h1, h3⟩) hE hE2)
 have CQ2 := Lib.hid (fun W (hW : Below w.heap.size w W) (ad : Option Addr) (c : Nat) (hr : W.ownsRow w.heap.size 112 1 (.slice ad (affA a bt t0 t1 r).length c) (affA a bt t0 t1 r).length ((affA a bt t0 t1 r).map (pkPtr (.slice pa g.qs.length cp)))) => rcon2_any (h.step hW) ho.toOkB hr hLL (fun i hi => by obtain ⟨p, h1, h2, h3⟩ := affA_mem hi; exact ⟨p, h1, h3⟩))
 have CL := Lib.hid (fun W (hW : Below w.heap.size w W) => Left_any (h.ra.step hW) hok b)
 rw [hbks] at CB
 rw [hla] at CL
 have HO := Lib.hid ho
 have HX := Lib.hid (blk_new w (.cells #[.int .i64 t] 2))
 have HB := Lib.hid (bAl (W := w) (o := (.cells #[.int .i64 t] 2)))
 clear hok hbks hnp hla hG hs hlen
 rw [decide_eq_true hb] at CB
 rw [hv.1] at CN1
 rw [hv.2.1] at CN2
 rw [hv.2.2.1] at CT1
 rw [hv.2.2.2.1] at CT2
 rw [hv.2.2.2.2] at CT3
 rw [h1] at CQ1
 rw [h2] at CQ2
 generalize affA a bt t0 t1 r = L at *
 generalize leftA a b = L3 at *
 clear hb hv h1 h2 hLL
 clear h ho
 go_enter Tryz.func19, Tryz.ntmps19
 go_upto_region 1 with fail
 generalize w.alloc (.cells #[.int .i64 t] 2) = W0 at *
 have x0 := blk_cell (o := 0) HX.out rfl; have xl := blk_lt HX.out
 go_wp2_with ((first | (go_at_call 56; refine (CV.out _ HB.out).mono ?_; rintro e w1 ⟨rfl, hbn⟩) | (go_at_call 59; refine (CB.out _ HB.out).mono ?_; rintro e w1 ⟨rfl, hbn⟩) | (go_at_call 39; (first | (with_reducible refine (CN1.out _).mono ?_) | (with_reducible refine (CN2.out _).mono ?_)); rintro e w1 ⟨rfl, hbn⟩) | (go_at_call 60; (first | (with_reducible refine (CT1.out _).mono ?_) | (with_reducible refine (CT2.out _).mono ?_) | (with_reducible refine (CT3.out _).mono ?_)); rintro e w1 ⟨rfl, hbn⟩) | (go_at_call 61; refine (CA.out _ HB.out).mono ?_; rintro e w1 ⟨v9, rfl, hrow, hbn⟩; have hr9 := own_low hrow HB.out.size; clear hrow; obtain ⟨av, cv, ev⟩ := row_slice hr9; subst ev; have HR := Lib.hid hr9; clear hr9) | (go_at_call 62; have cq1 := CQ1.out _ HB.out _ _ HR.out x0 xl; have cq2 := CQ2.out _ HB.out _ _ HR.out; (first | (with_reducible refine cq1.mono ?_) | (with_reducible refine cq2.mono ?_)); clear cq1 cq2; rintro e w1 ⟨rfl, hbn⟩; have HR9 := Lib.hid (own_step HR.out hbn); clear HR; have HR := HR9; clear HR9) | (go_at_call 17; refine (CL.out _ HB.out).mono ?_; rintro e w1 ⟨rfl, hbn⟩; have HR9 := Lib.hid (own_step HR.out hbn); clear HR; have HR := HR9; clear HR9)); have HX9 := Lib.hid (blk_step HX.out hbn); have HB9 := Lib.hid (bStep HB.out hbn); clear HX HB hbn x0 xl; have HX := HX9; have HB := HB9; clear HX9 HB9; have x0 := blk_cell (o := 0) HX.out rfl; have xl := blk_lt HX.out)
 exact bodyPost_ret (v := .tuple #[.slice none 0 0, .int .i64 4]) (by simp only [results, Tryz.results19]; go_simp) rfl ⟨_, rfl, ⟨rfl, Or.inl ⟨rfl, rfl⟩⟩, H.out.stay HB.out⟩
set_option maxHeartbeats 4000000 in
set_option maxRecDepth 20000 in
theorem Recall_6 {B R : Nat} {a : RegA} {g : RegS} {vb vp : Value} {w : World} (h : RegV B R vb a g vp w) (ho : OkA a) (hG : Glob0 w) (n : Nat) (t : Int) (bt : ByteArray) (t0 t1 : Int) (r : ByteArray) (hs : bt.size ≤ 1000000 ∧ r.size ≤ 1000000) (hb : 0 ≤ (n : Int) ∧ (n : Int) < a.bks.length) (hv : nameB bt = true ∧ nameB r = true ∧ timeB t = true ∧ timeB t0 = true ∧ timeB t1 = true) (h1 : (affA a bt t0 t1 r).any (fun i => decide (t < (lf (packA a i)).at_)) = false) (h2 : (affA a bt t0 t1 r).any (fun i => decide (500 ≤ (packA a i).2.length)) = false) (h3 : ¬ leftA a (n : Int) < (affA a bt t0 t1 r).length) :
  Calls Tryz.prog 19 #[.pointer (some ⟨R, 0, none⟩), .int .i64 (n : Int), .int .i64 t, .string bt, .int .i64 t0, .int .i64 t1, .string r] w fun en w' => ∃ v', en = .returned (.tuple #[v', .int .i64 (recallA a (n : Int) t bt t0 t1 r).1]) ∧ w'.ownsRow w.heap.size 9 1 v' (recallA a (n : Int) t bt t0 t1 r).2.1.length ((recallA a (n : Int) t bt t0 t1 r).2.1.map Value.string) ∧ RegN B R vb (recallA a (n : Int) t bt t0 t1 r).2.2 g vp w w' := by
 rw [show recallA a (n : Int) t bt t0 t1 r = (0, (affA a bt t0 t1 r).map (nameA a), recsA t r n (affA a bt t0 t1 r) a) from by rw [recallA_3 hb hv, if_neg (by rw [h1]; decide), if_neg (by rw [h2]; decide), if_neg h3, Int.toNat_natCast]]
 dsimp only
 have hok := h.ok ho.toOkB
 have hbks : g.bks = a.bks := by rw [← h.abs]; rfl
 have hlen := h.len
 have hnp := ho.np
 have hla : leftR g (n : Int) = leftA a (n : Int) := by rw [left_abs, h.abs]
 have H := Lib.hid h
 obtain ⟨pa, cp, hvp⟩ := h.ra.vpS
 subst hvp
 have hLL := affA_len (bt := bt) (t0 := t0) (t1 := t1) (r := r) ho
 have CV := Lib.hid (fun W (hW : Below w.heap.size w W) => valid_any (h.ra.step hW) hok.pt.1)
 have CB := Lib.hid (fun W (hW : Below w.heap.size w W) => book_any (h.ra.step hW) (n : Int))
 have CN1 := Lib.hid (fun W => isName_any bt W (by omega))
 have CN2 := Lib.hid (fun W => isName_any r W (by omega))
 have CT1 := Lib.hid (fun W => isTime_any t W)
 have CT2 := Lib.hid (fun W => isTime_any t0 W)
 have CT3 := Lib.hid (fun W => isTime_any t1 W)
 have CA := Lib.hid (fun W (hW : Below w.heap.size w W) => affected_any (h.step hW) ho (gstep hG hW) bt r t0 t1)
 have CQ1 := Lib.hid (fun W (hW : Below w.heap.size w W) (ad : Option Addr) (c : Nat) (hr : W.ownsRow w.heap.size 112 1 (.slice ad (affA a bt t0 t1 r).length c) (affA a bt t0 t1 r).length ((affA a bt t0 t1 r).map (pkPtr (.slice pa g.qs.length cp)))) (hE : W.cell? ⟨w.heap.size, 0, none⟩ = some (.int .i64 t)) (hE2 : w.heap.size < W.heap.size) => rcon1_any (h.step hW) ho.toOkB hr hLL (fun i hi => by obtain ⟨p, h1, h2, h3⟩ := affA_mem hi; exact ⟨p, h1, h3⟩) hE hE2)
 have CQ2 := Lib.hid (fun W (hW : Below w.heap.size w W) (ad : Option Addr) (c : Nat) (hr : W.ownsRow w.heap.size 112 1 (.slice ad (affA a bt t0 t1 r).length c) (affA a bt t0 t1 r).length ((affA a bt t0 t1 r).map (pkPtr (.slice pa g.qs.length cp)))) => rcon2_any (h.step hW) ho.toOkB hr hLL (fun i hi => by obtain ⟨p, h1, h2, h3⟩ := affA_mem hi; exact ⟨p, h1, h3⟩))
 have CL := Lib.hid (fun W (hW : Below w.heap.size w W) => Left_any (h.ra.step hW) hok (n : Int))
 rw [hbks] at CB
 rw [hla] at CL
 have HO := Lib.hid ho
 have HX := Lib.hid (blk_new w (.cells #[.int .i64 t] 2))
 have HB := Lib.hid (bAl (W := w) (o := (.cells #[.int .i64 t] 2)))
 clear hok hbks hnp hla hG hs hlen
 rw [decide_eq_true hb] at CB
 rw [hv.1] at CN1
 rw [hv.2.1] at CN2
 rw [hv.2.2.1] at CT1
 rw [hv.2.2.2.1] at CT2
 rw [hv.2.2.2.2] at CT3
 rw [h1] at CQ1
 rw [h2] at CQ2
 have hnb : n < a.bks.length := by omega
 have hRC : RecC a (affA a bt t0 t1 r) n t r := ⟨affA_nodup _ _ _ _ _, hnb, by have := leftA_at hnb; omega, rec_ok hv.2.1 hv.2.2.1, fun i hi => by
  obtain ⟨p, p1, p2, p3⟩ := affA_mem hi
  have c1 := List.any_eq_false.1 h1 i hi
  have c2 := List.any_eq_false.1 h2 i hi
  rw [p3] at c1 c2
  exact ⟨p, p1, aff_can HO.out p1 p2 (by simpa using c1), by simpa using c2⟩⟩
 have HRC := Lib.hid hRC
 have HLL := Lib.hid hLL
 have HI0 := Lib.hid (info_parts infoS')
 clear hRC hLL
 generalize affA a bt t0 t1 r = L at *
 have hln : L.length ≤ 100 := HLL.out
 generalize leftA a (n : Int) = L3 at *
 clear hb hv h1 h2 hnb
 clear h ho
 go_enter Tryz.func19, Tryz.ntmps19
 go_upto_region 1 with fail
 generalize w.alloc (.cells #[.int .i64 t] 2) = W0 at *
 have x0 := blk_cell (o := 0) HX.out rfl; have xl := blk_lt HX.out
 go_upto_region 15 with ((first | (go_at_call 56; refine (CV.out _ HB.out).mono ?_; rintro e w1 ⟨rfl, hbn⟩) | (go_at_call 59; refine (CB.out _ HB.out).mono ?_; rintro e w1 ⟨rfl, hbn⟩) | (go_at_call 39; (first | (with_reducible refine (CN1.out _).mono ?_) | (with_reducible refine (CN2.out _).mono ?_)); rintro e w1 ⟨rfl, hbn⟩) | (go_at_call 60; (first | (with_reducible refine (CT1.out _).mono ?_) | (with_reducible refine (CT2.out _).mono ?_) | (with_reducible refine (CT3.out _).mono ?_)); rintro e w1 ⟨rfl, hbn⟩) | (go_at_call 61; refine (CA.out _ HB.out).mono ?_; rintro e w1 ⟨v9, rfl, hrow, hbn⟩; have hr9 := own_low hrow HB.out.size; clear hrow; obtain ⟨av, cv, ev⟩ := row_slice hr9; subst ev; have HR := Lib.hid hr9; clear hr9) | (go_at_call 62; have cq1 := CQ1.out _ HB.out _ _ HR.out x0 xl; have cq2 := CQ2.out _ HB.out _ _ HR.out; (first | (with_reducible refine cq1.mono ?_) | (with_reducible refine cq2.mono ?_)); clear cq1 cq2; rintro e w1 ⟨rfl, hbn⟩; have HR9 := Lib.hid (own_step HR.out hbn); clear HR; have HR := HR9; clear HR9) | (go_at_call 17; refine (CL.out _ HB.out).mono ?_; rintro e w1 ⟨rfl, hbn⟩; have HR9 := Lib.hid (own_step HR.out hbn); clear HR; have HR := HR9; clear HR9)); have HX9 := Lib.hid (blk_step HX.out hbn); have HB9 := Lib.hid (bStep HB.out hbn); clear HX HB hbn x0 xl; have HX := HX9; have HB := HB9; clear HX9 HB9; have x0 := blk_cell (o := 0) HX.out rfl; have xl := blk_lt HX.out)
 clear h3
 obtain ⟨w0, rfl⟩ : ∃ w0 : World, w0 = w1 := ⟨_, rfl⟩
 obtain ⟨bL, cL, hcl⟩ := ptr_row HR.out
 have HCL := Lib.hid hcl
 have hS0 : RcS B R vb a g (.slice pa g.qs.length cp) n L t r bL w.heap.size cL w0 0 (.slice none 0 0) w0 := ⟨⟨g, H.out.step HB.out, Moved.refl, fun k hk => by cases hk⟩, ⟨rfl, Or.inl ⟨rfl, rfl⟩⟩, fun hl => (hcl hl).2.1, HX.out, RecI.start HO.out.toOkB L n⟩
 have HS0 := Lib.hid hS0
 have HB0 := HB
 clear hcl hS0 x0 xl
 go_wp2_with fail
 go_loopw [17, 69] (fun vo ix wr => ∃ j : Nat, j ≤ L.length ∧ ix = .int .i64 j ∧ Hid (RcS B R vb a g (.slice pa g.qs.length cp) n L t r bL w.heap.size cL w0 j vo wr)) (fun _ ix _ => L.length - (intOf ix).toNat)
 case atStart => exact ⟨0, by omega, rfl, HS0⟩
 case round =>
  obtain ⟨j, hj, rfl, HS⟩ := hrel
  by_cases hc : j < L.length
  ·have c1 : (j : Int) < L.length := by omega
   have c0 : (0 : Int) ≤ j := by omega
   obtain ⟨i, hk⟩ : ∃ i, L[j]? = some i := ⟨L[j], List.getElem?_eq_getElem hc⟩
   have hnl : L ≠ [] := by rintro e; rw [e] at hc; simp at hc
   obtain ⟨ead, -, hcc⟩ := HCL.out hnl
   obtain ⟨PB, cp2, m, evp, hCE⟩ := HS.out.enter HRC.out hk
   subst ead
   have g1 := blk_cell (HS.out.l hnl) (hcc j i hk)
   rw [evp, pkPtr_at] at g1
   have lb := blk_lt (HS.out.l hnl)
   have x0 := blk_cell (o := 0) HS.out.e rfl
   have xl := blk_lt HS.out.e
   have CE := Lib.hid hCE
   replace CE : Hid (Calls Tryz.prog 65 #[.pointer (some ⟨R, 0, none⟩), .int .i64 (n : Int), .pointer (some ⟨PB, i * 20, none⟩), .agg #[.int .i64 7, .int .i64 t, .int .i64 0, .int .i64 0, .string r, .string ⟨#[]⟩]] wr _) := CE
   have HJ := Lib.hid hk
   clear hCE hcc hk hnl hc evp
   go_wp2_with (first | (go_at_call 65; refine CE.out.mono ?_; rintro e w2 ⟨rfl, hM, hcn, hlp⟩; have HM := Lib.hid hM; clear hM) | (at_builtin; refine wpList_app _ rfl (.tmp 80) (.tmp 86) 47 rfl w0.heap.size 9 HI0.out.choose _ 1 16 Tryz.underlying47 HI0.out.choose_spec.1 HI0.out.choose_spec.2.1 HI0.out.choose_spec.2.2.1 HI0.out.choose_spec.2.2.2 rfl (by decide) _ j ((L.take j).map fun i => Value.string (nameA a i)) rfl (own_step HM.out.out bAl) (some ⟨w2.heap.size, 0, none⟩) 1 1 [.string (nameA a i)] rfl rfl new_cellsB (str1 _) (by have := HLL.out; unfold maxLen; omega) (by have := HLL.out; omega) (by obtain ⟨g9, -, m9, -⟩ := HM.out.v; have := m9.kp.size; simp; omega) ?_; intro v' w5 hown hgrow hat; have HS5 := Lib.hid (HM.out.put HJ.out hgrow hown hat); clear hown hgrow hat))
   exact ⟨⟨j + 1, by omega, by push_cast; rfl, HS5⟩, by simp [intOf]; omega⟩
  ·obtain rfl : j = L.length := by omega
   clear hc
   go_wp2_with fail
   obtain ⟨gj, v1, v2, -⟩ := HS.out.v
   rw [List.take_length] at v1
   have ho := HS.out.out
   rw [List.take_length] at ho
   exact bodyPost_ret (v := .tuple #[u17, .int .i64 0]) (by simp only [results, Tryz.results19]; go_simp) rfl ⟨_, rfl, by rw [List.length_map, List.map_map]; exact own_low ho HB0.out.size, gj, _, v1, Moved.pre HB0.out v2⟩
theorem Recall_any {B R : Nat} {a : RegA} {g : RegS} {vb vp : Value} {w : World} (h : RegV B R vb a g vp w) (ho : OkA a) (hG : Glob0 w) (b t : Int) (bt : ByteArray) (t0 t1 : Int) (r : ByteArray) (hs : bt.size ≤ 1000000 ∧ r.size ≤ 1000000) :
  Calls Tryz.prog 19 #[.pointer (some ⟨R, 0, none⟩), .int .i64 b, .int .i64 t, .string bt, .int .i64 t0, .int .i64 t1, .string r] w fun en w' => ∃ v', en = .returned (.tuple #[v', .int .i64 (recallA a b t bt t0 t1 r).1]) ∧ w'.ownsRow w.heap.size 9 1 v' (recallA a b t bt t0 t1 r).2.1.length ((recallA a b t bt t0 t1 r).2.1.map Value.string) ∧ RegN B R vb (recallA a b t bt t0 t1 r).2.2 g vp w w' := by
 by_cases hb : 0 ≤ b ∧ b < a.bks.length
 ·cases h0 : nameB bt with
  | false => exact Recall_20 h ho hG b t bt t0 t1 r hs hb h0
  | true =>
   cases h1 : nameB r with
   | false => exact Recall_21 h ho hG b t bt t0 t1 r hs hb h0 h1
   | true =>
    cases h2 : timeB t with
    | false => exact Recall_22 h ho hG b t bt t0 t1 r hs hb h0 h1 h2
    | true =>
     cases h3 : timeB t0 with
     | false => exact Recall_23 h ho hG b t bt t0 t1 r hs hb h0 h1 h2 h3
     | true =>
      cases h4 : timeB t1 with
      | false => exact Recall_24 h ho hG b t bt t0 t1 r hs hb h0 h1 h2 h3 h4
      | true =>
       have hv := And.intro h0 (And.intro h1 (And.intro h2 (And.intro h3 h4)))
       cases q1 : (affA a bt t0 t1 r).any (fun i => decide (t < (lf (packA a i)).at_)) with
       | true => exact Recall_3 h ho hG b t bt t0 t1 r hs hb hv q1
       | false =>
        cases q2 : (affA a bt t0 t1 r).any (fun i => decide (500 ≤ (packA a i).2.length)) with
        | true => exact Recall_4 h ho hG b t bt t0 t1 r hs hb hv q1 q2
        | false =>
         by_cases q3 : leftA a b < (affA a bt t0 t1 r).length
         ·exact Recall_5 h ho hG b t bt t0 t1 r hs hb hv q1 q2 q3
         ·obtain ⟨n, rfl⟩ := Int.eq_ofNat_of_zero_le hb.1
          exact Recall_6 h ho hG n t bt t0 t1 r hs hb hv q1 q2 q3
 ·exact Recall_1 h ho hG b t bt t0 t1 r hs hb
end Go.Proofs.YtmpilgkfbibhlaaGreatDoor
namespace Go.Proofs.YtmpilgkfbibhlaaGreatDoor
open Sx Go.RowKit Mr
theorem infoU8 : (Tryz.prog.info? 22).map (fun i => (i.zero, i.size, i.bytes)) = some (some (.int .u64 0), 1, 8) := by kernel_rfl
def padC (ns : List Nat) : List Value := ns.map fun n : Nat => Value.int .u64 (n : Int)
set_option maxHeartbeats 2000000 in
theorem clone0_any (ad : Addr) (c : Nat) (w : World) : Calls Tryz.prog 69 #[.slice (some ad) 0 c] w fun e w' => ∃ v', e = .returned v' ∧ w'.ownsRow w.heap.size 22 1 v' 0 [] ∧ Below w.heap.size w w' := by
 obtain ⟨i0, hi, hz0, hz1, hz2⟩ := info_parts infoU8
 have q22 : ∀ (w : World) (a : Option Addr) (n c n' c' : Nat), (binOp .eql 83 (.slice a n c) (.slice none n' c')).run Tryz.prog w = .ok (.bool a.isNone) w := fun w a n c n' c' => Lib.run_eql_slice_nil w _ _ a n c n' c' Tryz.underlying83
 go_enter Tryz.func69, Tryz.ntmps69
 go_wp2_with (at_builtin; refine wpList_append_own _ rfl _ _ 83 rfl w.heap.size 22 i0 (.int .u64 0) 1 8 Tryz.underlying83 hi hz0 hz1 hz2 rfl (by decide) _ _ _ rfl (World.ownsRow_made w #[] 0 (Nat.le_refl _) (Nat.zero_le _) rfl) ad 0 c [] rfl rfl (by intro j u hj; simp at hj) (by intro u hu; cases hu) (by unfold maxLen; omega) (by omega) (by simp) ?_)
 intro v' w1 hown hgrow hnil
 go_wp2
 go_ret
 exact ⟨v', rfl, by simpa using hown, ((Below.refl _ w).alloc (Nat.le_refl _) _).grown hgrow (by simp) (by intro k hk; simp [Value.ownBlock] at hk; omega)⟩
theorem clonePad_any {v : Value} {ns : List Nat} {w : World} (h : PadV v ns w) (hl : ns.length ≤ 1000000) : Calls Tryz.prog 69 #[v] w fun e w' => ∃ v', e = .returned v' ∧ w'.ownsRow w.heap.size 22 1 v' ns.length (padC ns) ∧ Below w.heap.size w w' := by
 obtain ⟨i0, hi, hz0, hz1, hz2⟩ := info_parts infoU8
 obtain ⟨a, c, rfl, h2⟩ := h
 by_cases hn : ns = []
 ·subst hn
  cases a with
  | none =>
   refine (AnyE.slices_Clone_nil laysSlE041_f69 0 c w).mono fun e w' q => ?_
   obtain ⟨rfl, rfl⟩ := q
   exact ⟨_, rfl, ⟨rfl, Or.inl ⟨rfl, rfl⟩⟩, Below.refl _ _⟩
  | some ad => exact clone0_any ad c w
 ·obtain ⟨b, off, rfl, hb, hc⟩ := h2 hn
  refine (AnyE.slices_Clone laysSlE041_f69 i0 (.int .u64 0) 1 8 hi hz0 hz1 hz2 rfl (by decide) (fun w => Tryz.sizeOf22 w) b off ns.length c (padC ns) w (by simp [padC]) (by unfold maxLen; omega) (by omega) (fun j u hu => ?_) (fun u hu => ?_)).mono fun e w' q => ?_
  ·unfold padC at hu
   rw [List.getElem?_map] at hu
   cases hj : ns[j]? with
   | none => rw [hj] at hu; cases hu
   | some n => rw [hj] at hu; cases hu; exact hc j n hj
  ·obtain ⟨t, -, rfl⟩ := List.mem_map.1 hu; rfl
  ·obtain ⟨v', rfl, q1, -, q2⟩ := q
   exact ⟨v', rfl, q1, q2⟩
theorem PadT.of_own {v : Value} {ns : List Nat} {W : World} {B : Nat} (h : W.ownsRow B 22 1 v ns.length (padC ns)) : PadT v ns W := by
 obtain ⟨h1, h2⟩ := h
 rcases h2 with ⟨h2, h3⟩ | ⟨g, cap, cur, q1, q2, q3, q4, q5, q6, q7⟩
 ·exact ⟨none, 0, by rw [h2, h3], fun hn => absurd (List.length_eq_zero_iff.1 h3) hn⟩
 ·refine ⟨_, cap, q1, fun _ => ⟨g, 0, cur, (0, 0), rfl, q3, fun k n hk => ?_⟩⟩
  have hj : (padC ns)[k]? = some (.int .u64 (n : Int)) := by unfold padC; rw [List.getElem?_map, hk]; rfl
  have hjl := (List.getElem?_eq_some_iff.1 hj).1
  rw [← q7, List.getElem?_take_of_lt (by simpa [padC] using hjl)] at hj
  simpa using hj
def flatB (l : List (Bk × Value)) : List Value := l.flatMap fun x => [.int .u64 (x.1.1 : Int), x.2]
theorem flatB_snoc (l : List (Bk × Value)) (x : Bk × Value) : flatB (l ++ [x]) = flatB l ++ [.int .u64 (x.1.1 : Int), x.2] := by unfold flatB; simp
theorem flatB_at {l : List (Bk × Value)} {k : Nat} {x : Bk × Value} (hk : l[k]? = some x) : (flatB l)[k * 2]? = some (.int .u64 (x.1.1 : Int)) ∧ (flatB l)[k * 2 + 1]? = some x.2 := by
 induction l generalizing k with
 | nil => cases hk
 | cons e0 h ih =>
  unfold flatB
  rw [List.flatMap_cons]
  cases k with
  | zero =>
   have : e0 = x := by simpa using hk
   subst this
   exact ⟨rfl, rfl⟩
  | succ k =>
   have := ih (k := k) (by simpa using hk)
   unfold flatB at this
   rw [show (k + 1) * 2 = k * 2 + 2 by omega, show k * 2 + 2 + 1 = k * 2 + 1 + 2 by omega]
   exact this
structure BkO (B : Nat) (bks : List Bk) (vb : Value) (W : World) : Prop where
 o : ∃ l : List (Bk × Value), l.map (·.1) = bks ∧ W.ownsRow B 85 2 vb bks.length (flatB l) ∧ ∀ x ∈ l, W.ownsRow B 22 1 x.2 x.1.2.length (padC x.1.2)
theorem BkO.step {B : Nat} {bks : List Bk} {vb : Value} {W w2 : World} (h : BkO B bks vb W) (hb : Below W.heap.size W w2) : BkO B bks vb w2 := by
 obtain ⟨l, h1, h2, h3⟩ := h.o
 exact ⟨l, h1, own_step h2 hb, fun x hx => own_step (h3 x hx) hb⟩
theorem BkO.nil (B : Nat) (W : World) : BkO B [] (.slice none 0 0) W := ⟨[], rfl, ⟨rfl, Or.inl ⟨rfl, rfl⟩⟩, fun x hx => by cases hx⟩
theorem BkO.bk {B : Nat} {bks : List Bk} {vb : Value} {W : World} (h : BkO B bks vb W) : ∃ ab cb, vb = .slice ab bks.length cb ∧ BksT ab bks W := by
 obtain ⟨l, h1, ⟨q0, h2⟩, h3⟩ := h.o
 rcases h2 with ⟨e1, e2⟩ | ⟨g, cap, cur, q1, q2, q3, q4, q5, q6, q7⟩
 ·exact ⟨none, 0, by rw [e1, e2], fun hn => absurd (List.length_eq_zero_iff.1 e2) hn⟩
 ·refine ⟨_, cap, q1, fun hn => ⟨g, 0, cur, (0, 0), rfl, q3, fun k bk hk => ?_⟩⟩
  rw [← h1, List.getElem?_map] at hk
  cases hx : l[k]? with
  | none => rw [hx] at hk; cases hk
  | some x =>
   rw [hx] at hk
   obtain rfl : x.1 = bk := Option.some.inj hk
   obtain ⟨f1, f2⟩ := flatB_at hx
   have hl : l.length = bks.length := by rw [← h1, List.length_map]
   have hkl := (List.getElem?_eq_some_iff.1 hx).1
   rw [← q7, List.getElem?_take_of_lt (by omega)] at f1 f2
   rw [Array.getElem?_toList] at f1 f2
   exact ⟨by rw [Nat.zero_add]; exact f1, x.2, by rw [Nat.zero_add]; exact f2, PadT.of_own (h3 x (List.mem_of_getElem? hx))⟩
end Go.Proofs.YtmpilgkfbibhlaaGreatDoor
