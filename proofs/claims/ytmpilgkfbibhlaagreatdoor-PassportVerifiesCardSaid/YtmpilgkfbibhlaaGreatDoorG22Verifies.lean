/-
 Verify of package passport: its loop.
-/
import Derived.Test.YtmpilgkfbibhlaaGreatDoorG20Verifies
import Derived.Test.YtmpilgkfbibhlaaGreatDoorG21Verifies
set_option linter.unusedSimpArgs false
set_option linter.unusedVariables false
namespace Go.Proofs.YtmpilgkfbibhlaaGreatDoor
open Sx Go.RowKit Mr
theorem byt_of_name (name : ByteArray) : Byt (name.data.toList.map UInt8.toNat) := fun k => by
 rw [List.getD_eq_getElem?_getD, List.getElem?_map]
 cases h : name.data.toList[k]? with
 | none => decide
 | some b => exact b.toNat_lt
theorem name_len (name : ByteArray) : (name.data.toList.map UInt8.toNat).length = name.size := by rw [List.length_map, Array.length_toList]; rfl
theorem name_bytV (name : ByteArray) (cap : Nat) (W : World) {fr : Nat × Nat} : BytV (some ⟨W.heap.size, 0, none⟩) (name.data.toList.map UInt8.toNat) (W.alloc (.cells (bytesRow name cap) 5 fr)) := fun _ => by
 refine ⟨W.heap.size, 0, rfl, by simp, fun k hk => ?_⟩
 have hk2 : k < name.data.size := by rw [name_len] at hk; exact hk
 rw [Nat.zero_add, World.cell?_alloc_mark, bytesRow_at _ _ _ hk2, List.getD_eq_getElem?_getD, List.getElem?_map, List.getElem?_eq_getElem (by simpa using hk2)]
 simp
theorem al_lt {w4 : World} {o : Obj} {B : Nat} (h : B < w4.heap.size) : B < ((w4.alloc o).drew).heap.size := Nat.lt_of_lt_of_le h ((bAl (W := w4) (o := o)).drew).size
theorem al_cell {w4 : World} {o : Obj} {p : Addr} {v : Value} (h : w4.cell? p = some v) : ((w4.alloc o).drew).cell? p = some v := cell_step h (bAl (W := w4) (o := o)).drew
theorem al_below {w4 w5 : World} {o : Obj} (h : Below ((w4.alloc o).drew).heap.size ((w4.alloc o).drew) w5) : Below w4.heap.size w4 w5 := bStep (bAl (W := w4) (o := o)).drew h
theorem al_byt {W : World} {a : Option Addr} {m : List Nat} (h : BytV a m W) : BytV a m W.drew := h.step (Below.refl _ _).drew
theorem infoPr : (Tryz.prog.info? 101).map (fun i => (i.zero, i.size, i.bytes)) = some (some (.agg #[.int .i64 0, .int .i64 0]), 2, 16) := by kernel_rfl
theorem rt_1 {pt : Nat} {bks : List Bk} {name : ByteArray} {pre : List Ent} {x : Ent} (h : okX x.1 = false) : rightB pt bks name pre x = false := by unfold rightB; rw [h]; rfl
theorem rt_2 {pt : Nat} {bks : List Bk} {name : ByteArray} {pre : List Ent} {x : Ent} (h : canR name (evsOf pre) x.1 = false) : rightB pt bks name pre x = false := by unfold rightB; rw [show canR name (pre.map (·.1)) x.1 = false from h]; simp
theorem rt_3 {pt : Nat} {bks : List Bk} {name : ByteArray} {pre : List Ent} {x : Ent} (h : ¬ (0 ≤ x.2.1 ∧ x.2.1 < bks.length ∧ 0 ≤ x.2.2.1 ∧ x.2.2.1 < (bks.getD x.2.1.toNat (0, [])).2.length)) : rightB pt bks name pre x = false := by unfold rightB inBook; rw [decide_eq_false h]; simp
theorem rt_4 {pt : Nat} {bks : List Bk} {name : ByteArray} {pre : List Ent} {x : Ent} (h : prHas (prOf pre) x.2.1 x.2.2.1 = true) : rightB pt bks name pre x = false := by unfold rightB; rw [pairIn_has, h]; simp
theorem rt_5 {pt : Nat} {bks : List Bk} {name : ByteArray} {pre : List Ent} {x : Ent} (h1 : okX x.1 = true) (h2 : canR name (evsOf pre) x.1 = true) (h3 : 0 ≤ x.2.1 ∧ x.2.1 < bks.length ∧ 0 ≤ x.2.2.1 ∧ x.2.2.1 < (bks.getD x.2.1.toNat (0, [])).2.length) (h4 : prHas (prOf pre) x.2.1 x.2.2.1 = false) :
  rightB pt bks name pre x = entB (nextE pt bks (headOf pt name pre) x.1 x.2.1.toNat x.2.2.1.toNat) x := by unfold rightB inBook; rw [h1, show canR name (pre.map (·.1)) x.1 = true from h2, decide_eq_true h3, pairIn_has, h4, entB_iff]; simp
set_option maxHeartbeats 8000000 in
set_option maxRecDepth 20000 in
theorem Verify_4 {a ab : Option Addr} {es : List Ent} {bks : List Bk} {w : World} (pt c cb : Nat) (name : ByteArray) (hE : EntAt a es w) (hB : BksAt ab bks w) (hG : Glob0 w)
  (hes : es.length ≤ 1000000 ∧ ∀ y ∈ es, y.1.2.2.2.2.1.size ≤ 100 ∧ y.1.2.2.2.2.2.size ≤ 100) (hbl : bks.length ≤ 1000000 ∧ ∀ bk ∈ bks, bk.2.length ≤ 1000000) (hnm : name.size ≤ 1000) (h1 : secR pt bks = 0) (h2 : nameB name = true) (h3 : ¬ 500 < es.length) :
  Calls Tryz.prog 12 #[.int .u64 (pt : Int), .slice ab bks.length cb, .string name, .slice a es.length c] w fun e w' => e = .returned (verV (verR pt bks name es)) ∧ Below w.heap.size w w' := by
 have CS := Lib.hid (Secrets_any pt cb hB hbl)
 have CN := Lib.hid (fun W => isName_any name W (by omega))
 obtain ⟨hb0, hb8, hbk⟩ := secR_ok h1
 obtain ⟨bb, ob, rfl, hbb, hbc⟩ := hB (by rintro rfl; simp at hb8)
 have HBC := Lib.hid hbc
 clear hbc
 have CD := Lib.hid (fun W BL oL cap a (hb : BL < W.heap.size) hP hQ hA => digest_any 2147483647 3 pt BL oL cap a (name.data.toList.map UInt8.toNat) W (by decide) (by decide) (by have := hb0.2; unfold P31 at this; omega) (by decide) (by decide) (byt_of_name name) (by rw [name_len]; omega) hb hP hQ hA)
 have hBE : dig 2147483647 3 pt (name.data.toList.map UInt8.toNat) = beginE pt name := rfl
 rw [hBE] at CD
 simp only [name_len] at CD
 clear hBE
 rw [verR_4 h1 h2 h3]
 unfold verV
 rw [h1] at CS
 rw [h2] at CN
 have h4 : ¬ (500 : Int) < es.length := by omega
 have HE := Lib.hid hE
 have HB := Lib.hid hB
 have HG := Lib.hid hG
 have HS := Lib.hid (And.intro hes (And.intro hb0 (And.intro hb8 hbk)))
 have HN := Lib.hid (And.intro hnm h3)
 clear hE hB hG hes hbl hnm h1 h2 h3 hb0 hb8 hbk
 go_enter Tryz.func12, Tryz.ntmps12
 go_upto_region 8 with (first | (go_at_call 38; refine CS.out.mono ?_; rintro e w1 ⟨rfl, hb1⟩) | (go_at_call 39; refine (CN.out _).mono ?_; rintro e w2 ⟨rfl, hb2⟩))
 clear h4
 have HW2 := Lib.hid (bStep hb1 hb2)
 clear hb1 hb2 CS CN
 go_upto_region 9 with fail
 have HLB := Lib.hid (life_box w2 name)
 have HA3 := Lib.hid (bStep HW2.out bAl : Below w.heap.size w (w2.alloc (.cells #[.string name, .int .i64 0, .int .i64 0, .int .i64 0, .int .i64 0, .int .i64 0, .int .i64 0, .string ⟨#[]⟩, .string ⟨#[]⟩, .slice none 0 0, .slice none 0 0, .int .i64 0, .int .i64 0, .bool false, .int .i64 0, .int .i64 0, .int .i64 0, .bool false] 93)))
 have HXs := Lib.hid HW2.out.size
 clear HW2
 generalize (w2.alloc _) = w3 at *
 generalize w2.heap.size = X at *
 go_upto_region 10 with (first | (go_at_call 40; refine (large_any _).mono ?_; rintro e w4 ⟨BL, oL, rfl, L1, L2, L3, L4, hb4⟩; have hconv := run_bytes_of_string (P := Tryz.prog) w4 9 88 5 name Tryz.underlying9 Tryz.underlying88 Tryz.underlying5; have HV := Lib.hid (fun cap fr => name_bytV (fr := fr) name cap w4); have HL4 := Lib.hid (And.intro L2 (And.intro L3 L4)); have HW4 := Lib.hid hb4; clear L1 L2 L3 L4 hb4) | (go_at_call 41; refine (CD.out _ _ _ _ _ (al_lt HL4.out.1) (al_cell HL4.out.2.1) (al_cell HL4.out.2.2) (al_byt (HV.out _ _))).mono ?_; rintro e w5 ⟨rfl, hb5⟩; have HW5 := Lib.hid (bStep HW4.out (al_below hb5)); clear hb5))
 have HC5 := Lib.hid HLB.out.lt
 have HV0 : Hid (VfS w X w5.heap.size (w5.alloc (.cells #[.int .u64 (beginE pt name : Int)] 99)).heap.size pt name [] (.slice none 0 0) (w5.alloc (.cells #[.int .u64 (beginE pt name : Int)] 99))) :=
  ⟨⟨.slice none 0 0, .slice none 0 0, (HLB.out.step HW5.out).step bAl, fun _ => rfl⟩, blk_new w5 _, ⟨rfl, Or.inl ⟨rfl, rfl⟩⟩, bStep HA3.out (bStep HW5.out bAl), HXs.out, by have := HC5.out; have := HW5.out.size; omega, by simp, Nat.le_refl _⟩
 clear HW5 HW4 HL4 HV HA3 HLB HXs HC5 CD hconv
 generalize (w5.alloc (.cells #[.int .u64 (beginE pt name : Int)] 99)).heap.size = N at *
 generalize w5.alloc (.cells #[.int .u64 (beginE pt name : Int)] 99) = w6 at *
 generalize w5.heap.size = C at *
 go_wp2_with fail
 obtain ⟨i0, hi0, hz0, hz1, hz2⟩ := info_parts infoPr
 have HI0 := Lib.hid (And.intro hi0 (And.intro hz0 (And.intro hz1 hz2)))
 clear hi0 hz0 hz1 hz2
 go_loopw [14, 15, 16, 17, 42] (fun v _ _ _ ix wr => ∃ i : Nat, i ≤ es.length ∧ ix = .int .i64 i ∧ Hid (AllR pt bks name es i) ∧ Hid (VfS w X C N pt name (es.take i) v wr)) (fun _ _ _ _ ix _ => es.length - (intOf ix).toNat)
 case atStart => exact ⟨0, by omega, rfl, AllR.zero, HV0⟩
 case round =>
  clear HV0
  obtain ⟨i, hi, rfl, HR, HV⟩ := hrel
  by_cases hc : i < es.length
  ·have c1 : (i : Int) < es.length := by omega
   have c0 : (0 : Int) ≤ i := by omega
   obtain ⟨y, hk⟩ : ∃ y, es[i]? = some y := ⟨es[i], List.getElem?_eq_getElem hc⟩
   obtain ⟨b, off, rfl, hb0, hcs⟩ := HE.out (by rintro rfl; simp at hc)
   have HK := Lib.hid hk
   have HSZ := Lib.hid (HS.out.1.2 y (List.mem_of_getElem? hk))
   have HYC : Hid (∀ j u, (entC y)[j]? = some u → wr.cell? ⟨b, off + i * 10 + j, none⟩ = some u) := fun j u hj => cell_step (hcs i y hk j u hj) HV.out.bel
   have hlb : b < wr.heap.size := Nat.lt_of_lt_of_le hb0 HV.out.bel.size
   have HEB := Lib.hid (entBox wr y)
   have HET := Lib.hid (ent_there wr)
   unfold zeroE at HEB HET
   obtain ⟨⟨k, t, a1, b1, nm, ot⟩, by_, pad, head, tag⟩ := y
   clear hcs hc hb0 hk
   go_upto_region 14 with (first | (refine wpList_load_mid rfl 31 (.tmp 45) rfl b (off + i * 10) rfl (entC ((k, t, a1, b1, nm, ot), by_, pad, head, tag)) _ HYC.out Tryz.underlying31 rfl ent_size ?_) | (refine wpList_store_mid rfl 31 (.tmp 16) (.tmp 46) rfl wr.heap.size 0 (entC ((k, t, a1, b1, nm, ot), by_, pad, head, tag)).toArray rfl rfl HET.out ent_size (entC_one _) ?_))
   have HPX1 : X < wr.heap.size := by have := HV.out.pl; omega
   generalize (World.setCells _ wr.heap.size 0 _) = w1 at *
   have HV1 := Lib.hid (HV.out.step HEB.out.2)
   have HEX := Lib.hid HEB.out.1
   have HP1 := Lib.hid (blk_lt HEX.out)
   have HPX0 := Lib.hid HPX1
   clear HV HEB HET hlb HYC
   have HPX : Hid (X < wr.heap.size) := HPX0.out
   generalize wr.heap.size = P at *
   have z6 : w1.cell? ⟨P, 6, none⟩ = some (.int .i64 by_) := blk_cell HEX.out rfl
   have z7 : w1.cell? ⟨P, 7, none⟩ = some (.int .i64 pad) := blk_cell HEX.out rfl
   have zl := HP1.out
   go_upto_region 15 with fail
   have HQ := Lib.hid (blk_new w1 (.cells #[.int .i64 by_, .int .i64 pad] 101))
   have HEX2 := Lib.hid (blk_step HEX.out (bAl (W := w1) (o := .cells #[.int .i64 by_, .int .i64 pad] 101)))
   have HV2 := Lib.hid (HV1.out.step (bAl (W := w1) (o := .cells #[.int .i64 by_, .int .i64 pad] 101)))
   clear HV1 HEX HP1 z6 z7 zl
   generalize w1.alloc (.cells #[.int .i64 by_, .int .i64 pad] 101) = W2 at *
   generalize w1.heap.size = Q at *
   have HB2 := Lib.hid HV2.out.bel
   obtain ⟨vm, vo, hL, hnil⟩ := HV2.out.life
   have HL := Lib.hid (And.intro hL hnil)
   have HLG := Lib.hid (HR.out.leg (by omega))
   obtain ⟨au, cu, rfl, hPr⟩ := HV2.out.prAt
   have HPr := Lib.hid hPr
   clear hL hnil hPr
   have u0 : ∀ s : WStep W2, s.1.cell? ⟨P, 0, none⟩ = some (.int .i64 k) := fun s => cell_step (blk_cell HEX2.out rfl) s.2
   have u1 : ∀ s : WStep W2, s.1.cell? ⟨P, 1, none⟩ = some (.int .i64 t) := fun s => cell_step (blk_cell HEX2.out rfl) s.2
   have u2 : ∀ s : WStep W2, s.1.cell? ⟨P, 2, none⟩ = some (.int .i64 a1) := fun s => cell_step (blk_cell HEX2.out rfl) s.2
   have u3 : ∀ s : WStep W2, s.1.cell? ⟨P, 3, none⟩ = some (.int .i64 b1) := fun s => cell_step (blk_cell HEX2.out rfl) s.2
   have u4 : ∀ s : WStep W2, s.1.cell? ⟨P, 4, none⟩ = some (.string nm) := fun s => cell_step (blk_cell HEX2.out rfl) s.2
   have u5 : ∀ s : WStep W2, s.1.cell? ⟨P, 5, none⟩ = some (.string ot) := fun s => cell_step (blk_cell HEX2.out rfl) s.2
   have u6 : ∀ s : WStep W2, s.1.cell? ⟨P, 6, none⟩ = some (.int .i64 by_) := fun s => cell_step (blk_cell HEX2.out rfl) s.2
   have u7 : ∀ s : WStep W2, s.1.cell? ⟨P, 7, none⟩ = some (.int .i64 pad) := fun s => cell_step (blk_cell HEX2.out rfl) s.2
   have q0 : ∀ s : WStep W2, s.1.cell? ⟨Q, 0, none⟩ = some (.int .i64 by_) := fun s => cell_step (blk_cell HQ.out rfl) s.2
   have q1 : ∀ s : WStep W2, s.1.cell? ⟨Q, 1, none⟩ = some (.int .i64 pad) := fun s => cell_step (blk_cell HQ.out rfl) s.2
   have CK := Lib.hid (fun s : WStep W2 => step_call s (Check_any k t a1 b1 nm ot s.1 (gstep HG.out (bStep HB2.out s.2)) (by have := HSZ.out.1; dsimp only at this; omega) (by have := HSZ.out.2; dsimp only at this; omega)))
   have hst : rightB pt bks name (es.take i) ((k, t, a1, b1, nm, ot), by_, pad, head, tag) = false → verN pt bks name [] es = i := fun hr => HR.out.stop HK.out hr
   have HST := Lib.hid hst
   have hne : ¬ i = es.length := by omega
   have HNE := Lib.hid hne
   clear hst hne
   cases hok : okX (k, t, a1, b1, nm, ot)
   ·have HF := Lib.hid (HST.out (rt_1 hok))
    rw [show okE k t a1 b1 nm ot = false from hok] at CK
    simp only [cond_false] at CK
    clear hok
    refine wp_region_lock (by kernel_rfl) (by kernel_rfl) ?_
    repeat (first | (refine WQ.skip rfl rfl rfl rfl ?_; simp only [Act.put, List.setIfInBounds_toArray, List.set_cons_zero, List.set_cons_succ, List.set_nil]) | ((first | (apply WQ.val; (exact rfl)) | (apply WQ.valg; (exact rfl); (exact rfl); (exact rfl))); (intro w9 hw9; obtain ⟨s9, rfl⟩ := hw9; simp [go_sem, u0, u1, u2, u3, u4, u5]; first | done | exact rfl | (with_reducible exact CK.out s9)); simp only [Act.put, List.setIfInBounds_toArray, List.set_cons_zero, List.set_cons_succ, List.set_nil]))
    refine WQ.fin fun W4 hW4 => ?_
    go_wp2_with fail
    exact bodyPost_ret (v := .tuple #[.int .i64 (i : Int), .bool false, .int .i64 0]) (by simp only [results, Tryz.results12]; go_simp) rfl ⟨by rw [HF.out, decide_eq_false HNE.out], bStep HB2.out hW4⟩
   ·rw [show okE k t a1 b1 nm ot = true from hok] at CK
    simp only [cond_true] at CK
    have HOK := Lib.hid hok
    have HLN := Lib.hid ((lifeOf_N name _ HLG.out.2).lifeB (by rw [life_n]; unfold evsOf; rw [List.length_map, List.length_take]; have := HN.out.2; omega))
    have CC : Hid (∀ s : WStep W2, Calls Tryz.prog 43 #[.pointer (some ⟨X, 0, none⟩), .agg #[.int .i64 k, .int .i64 t, .int .i64 a1, .int .i64 b1, .string nm, .string ot]] s.1 fun e w' => e = .returned (.bool (canR name (evsOf (es.take i)) (k, t, a1, b1, nm, ot))) ∧ ∃ t : WStep W2, w' = t.1) := fun s => by
     have h := step_call s (can_any (HL.out.1.step s.2) (k, t, a1, b1, nm, ot) (okE_ev hok).1.k (by have := HLN.out.2.1; omega) (by have := HLN.out.2.2; omega))
     rw [can_same HLG.out.1] at h
     exact h
    clear hok
    cases hcan : canR name (evsOf (es.take i)) (k, t, a1, b1, nm, ot)
    ·rw [hcan] at CC
     have HF := Lib.hid (HST.out (rt_2 hcan))
     clear hcan
     refine wp_region_lock (by kernel_rfl) (by kernel_rfl) ?_
     repeat (first | (refine WQ.skip rfl rfl rfl rfl ?_; simp only [Act.put, List.setIfInBounds_toArray, List.set_cons_zero, List.set_cons_succ, List.set_nil]) | ((first | (apply WQ.val; (exact rfl)) | (apply WQ.valg; (exact rfl); (exact rfl); (exact rfl))); (intro w9 hw9; obtain ⟨s9, rfl⟩ := hw9; simp [go_sem, u0, u1, u2, u3, u4, u5]; first | done | exact rfl | (with_reducible exact CK.out s9) | (with_reducible exact CC.out s9)); simp only [Act.put, List.setIfInBounds_toArray, List.set_cons_zero, List.set_cons_succ, List.set_nil]))
     refine WQ.fin fun W4 hW4 => ?_
     go_wp2_with fail
     exact bodyPost_ret (v := .tuple #[.int .i64 (i : Int), .bool false, .int .i64 0]) (by simp only [results, Tryz.results12]; go_simp) rfl ⟨by rw [HF.out, decide_eq_false HNE.out], bStep HB2.out hW4⟩
    ·rw [hcan] at CC
     have HCAN := Lib.hid hcan
     clear hcan
     by_cases h0 : by_ < 0
     ·have HF := Lib.hid (HST.out (rt_3 (by dsimp only; omega)))
      refine wp_region_lock (by kernel_rfl) (by kernel_rfl) ?_
      repeat (first | (refine WQ.skip rfl rfl rfl rfl ?_; simp only [Act.put, List.setIfInBounds_toArray, List.set_cons_zero, List.set_cons_succ, List.set_nil]) | ((first | (apply WQ.val; (exact rfl)) | (apply WQ.valg; (exact rfl); (exact rfl); (exact rfl))); (intro w9 hw9; obtain ⟨s9, rfl⟩ := hw9; simp [go_sem, u0, u1, u2, u3, u4, u5, u6, u7, q0, q1, h0]; first | done | exact rfl | (with_reducible exact CK.out s9) | (with_reducible exact CC.out s9)); simp only [Act.put, List.setIfInBounds_toArray, List.set_cons_zero, List.set_cons_succ, List.set_nil]))
      refine WQ.fin fun W4 hW4 => ?_
      go_wp2_with fail
      exact bodyPost_ret (v := .tuple #[.int .i64 (i : Int), .bool false, .int .i64 0]) (by simp only [results, Tryz.results12]; go_simp) rfl ⟨by rw [HF.out, decide_eq_false HNE.out], bStep HB2.out hW4⟩
     ·obtain ⟨n, rfl⟩ := Int.eq_ofNat_of_zero_le (show 0 ≤ by_ by omega)
      clear h0
      by_cases h1 : bks.length ≤ n
      ·have h1i : (bks.length : Int) ≤ n := by omega
       have HF := Lib.hid (HST.out (rt_3 (by dsimp only; omega)))
       refine wp_region_lock (by kernel_rfl) (by kernel_rfl) ?_
       repeat (first | (refine WQ.skip rfl rfl rfl rfl ?_; simp only [Act.put, List.setIfInBounds_toArray, List.set_cons_zero, List.set_cons_succ, List.set_nil]) | ((first | (apply WQ.val; (exact rfl)) | (apply WQ.valg; (exact rfl); (exact rfl); (exact rfl))); (intro w9 hw9; obtain ⟨s9, rfl⟩ := hw9; simp [go_sem, u0, u1, u2, u3, u4, u5, u6, u7, q0, q1, h1, h1i]; first | done | exact rfl | (with_reducible exact CK.out s9) | (with_reducible exact CC.out s9)); simp only [Act.put, List.setIfInBounds_toArray, List.set_cons_zero, List.set_cons_succ, List.set_nil]))
       refine WQ.fin fun W4 hW4 => ?_
       go_wp2_with fail
       exact bodyPost_ret (v := .tuple #[.int .i64 (i : Int), .bool false, .int .i64 0]) (by simp only [results, Tryz.results12]; go_simp) rfl ⟨by rw [HF.out, decide_eq_false HNE.out], bStep HB2.out hW4⟩
      ·have h1i : ¬ (bks.length : Int) ≤ n := by omega
       have h2 : n < bks.length := by omega
       have h2i : (n : Int) < bks.length := by omega
       have h2z : (0 : Int) ≤ n := by omega
       by_cases h3 : pad < 0
       ·have HF := Lib.hid (HST.out (rt_3 (by dsimp only; omega)))
        refine wp_region_lock (by kernel_rfl) (by kernel_rfl) ?_
        repeat (first | (refine WQ.skip rfl rfl rfl rfl ?_; simp only [Act.put, List.setIfInBounds_toArray, List.set_cons_zero, List.set_cons_succ, List.set_nil]) | ((first | (apply WQ.val; (exact rfl)) | (apply WQ.valg; (exact rfl); (exact rfl); (exact rfl))); (intro w9 hw9; obtain ⟨s9, rfl⟩ := hw9; simp [go_sem, u0, u1, u2, u3, u4, u5, u6, u7, q0, q1, h1, h1i, h2, h2i, h2z, h3]; first | done | exact rfl | (with_reducible exact CK.out s9) | (with_reducible exact CC.out s9)); simp only [Act.put, List.setIfInBounds_toArray, List.set_cons_zero, List.set_cons_succ, List.set_nil]))
        refine WQ.fin fun W4 hW4 => ?_
        go_wp2_with fail
        exact bodyPost_ret (v := .tuple #[.int .i64 (i : Int), .bool false, .int .i64 0]) (by simp only [results, Tryz.results12]; go_simp) rfl ⟨by rw [HF.out, decide_eq_false HNE.out], bStep HB2.out hW4⟩
       ·obtain ⟨m, rfl⟩ := Int.eq_ofNat_of_zero_le (show 0 ≤ pad by omega)
        clear h3
        obtain ⟨bk, hbk⟩ : ∃ bk, bks[n]? = some bk := ⟨bks[n], List.getElem?_eq_getElem h2⟩
        have HBK := Lib.hid hbk
        have hgd : bks.getD n (0, []) = bk := by rw [List.getD_eq_getElem?_getD, hbk]; rfl
        obtain ⟨s0, vp, s1, hpv⟩ := HBC.out n bk hbk
        obtain ⟨ap, cp, rfl, hpc⟩ := hpv
        have s2 : ∀ s : WStep W2, s.1.cell? ⟨bb, ob + n * 2 + 1, none⟩ = some (.slice ap bk.2.length cp) := fun s => cell_step s1 (bStep HB2.out s.2)
        clear s0 s1 hpc hbk
        by_cases h4 : bk.2.length ≤ m
        ·have h4i : (bk.2.length : Int) ≤ m := by omega
         have HF := Lib.hid (HST.out (rt_3 (by dsimp only; rw [Int.toNat_natCast, hgd]; omega)))
         clear hgd
         refine wp_region_lock (by kernel_rfl) (by kernel_rfl) ?_
         repeat (first | (refine WQ.skip rfl rfl rfl rfl ?_; simp only [Act.put, List.setIfInBounds_toArray, List.set_cons_zero, List.set_cons_succ, List.set_nil]) | ((first | (apply WQ.val; (exact rfl)) | (apply WQ.valg; (exact rfl); (exact rfl); (exact rfl))); (intro w9 hw9; obtain ⟨s9, rfl⟩ := hw9; simp [go_sem, u0, u1, u2, u3, u4, u5, u6, u7, q0, q1, s2, h1, h1i, h2, h2i, h2z, h4, h4i]; first | done | exact rfl | (with_reducible exact CK.out s9) | (with_reducible exact CC.out s9)); simp only [Act.put, List.setIfInBounds_toArray, List.set_cons_zero, List.set_cons_succ, List.set_nil]))
         refine WQ.fin fun W4 hW4 => ?_
         go_wp2_with fail
         exact bodyPost_ret (v := .tuple #[.int .i64 (i : Int), .bool false, .int .i64 0]) (by simp only [results, Tryz.results12]; go_simp) rfl ⟨by rw [HF.out, decide_eq_false HNE.out], bStep HB2.out hW4⟩
        ·have h4i : ¬ (bk.2.length : Int) ≤ m := by omega
         have CH := Lib.hid (fun s : WStep W2 => step_call s (hasPr_any cu (HPr.out.step s.2) (by unfold prOf; rw [List.length_map, List.length_take]; omega) (n : Int) (m : Int)))
         have HIN : Hid (0 ≤ (n : Int) ∧ (n : Int) < bks.length ∧ 0 ≤ (m : Int) ∧ (m : Int) < (bks.getD (n : Int).toNat (0, [])).2.length) := ⟨by omega, by omega, by omega, by rw [Int.toNat_natCast, hgd]; omega⟩
         clear hgd
         cases hpr : prHas (prOf (es.take i)) (n : Int) (m : Int)
         rotate_left
         ·rw [hpr] at CH
          have HF := Lib.hid (HST.out (rt_4 hpr))
          clear hpr
          refine wp_region_lock (by kernel_rfl) (by kernel_rfl) ?_
          repeat (first | (refine WQ.skip rfl rfl rfl rfl ?_; simp only [Act.put, List.setIfInBounds_toArray, List.set_cons_zero, List.set_cons_succ, List.set_nil]) | ((first | (apply WQ.val; (exact rfl)) | (apply WQ.valg; (exact rfl); (exact rfl); (exact rfl))); (intro w9 hw9; obtain ⟨s9, rfl⟩ := hw9; simp [go_sem, u0, u1, u2, u3, u4, u5, u6, u7, q0, q1, s2, h1, h1i, h2, h2i, h2z, h4, h4i]; first | done | exact rfl | (with_reducible exact CK.out s9) | (with_reducible exact CC.out s9) | (with_reducible exact CH.out s9)); simp only [Act.put, List.setIfInBounds_toArray, List.set_cons_zero, List.set_cons_succ, List.set_nil]))
          refine WQ.fin fun W4 hW4 => ?_
          go_wp2_with fail
          exact bodyPost_ret (v := .tuple #[.int .i64 (i : Int), .bool false, .int .i64 0]) (by simp only [results, Tryz.results12]; go_simp) rfl ⟨by rw [HF.out, decide_eq_false HNE.out], bStep HB2.out hW4⟩
         ·rw [hpr] at CH
          have HPRF := Lib.hid hpr
          clear hpr
          refine wp_region_lock (by kernel_rfl) (by kernel_rfl) ?_
          repeat (first | (refine WQ.skip rfl rfl rfl rfl ?_; simp only [Act.put, List.setIfInBounds_toArray, List.set_cons_zero, List.set_cons_succ, List.set_nil]) | ((first | (apply WQ.val; (exact rfl)) | (apply WQ.valg; (exact rfl); (exact rfl); (exact rfl))); (intro w9 hw9; obtain ⟨s9, rfl⟩ := hw9; simp [go_sem, u0, u1, u2, u3, u4, u5, u6, u7, q0, q1, s2, h1, h1i, h2, h2i, h2z, h4, h4i]; first | done | exact rfl | (with_reducible exact CK.out s9) | (with_reducible exact CC.out s9) | (with_reducible exact CH.out s9)); simp only [Act.put, List.setIfInBounds_toArray, List.set_cons_zero, List.set_cons_succ, List.set_nil]))
          refine WQ.fin fun W4 hW4 => ?_
          go_upto_region 17 with fail
          have HV4 := Lib.hid (HV2.out.step hW4)
          have HEX4 := Lib.hid (blk_step HEX2.out hW4)
          have HQ4 := Lib.hid (blk_step HQ.out hW4)
          have HB4 := Lib.hid (bStep HB2.out hW4)
          clear u0 u1 u2 u3 u4 u5 u6 u7 q0 q1 s2 hW4 CK CC CH HB2 HPr HL HV2 HEX2 HQ
          have u0 : ∀ s : WStep W4, s.1.cell? ⟨P, 0, none⟩ = some (.int .i64 k) := fun s => cell_step (blk_cell HEX4.out rfl) s.2
          have u1 : ∀ s : WStep W4, s.1.cell? ⟨P, 1, none⟩ = some (.int .i64 t) := fun s => cell_step (blk_cell HEX4.out rfl) s.2
          have u2 : ∀ s : WStep W4, s.1.cell? ⟨P, 2, none⟩ = some (.int .i64 a1) := fun s => cell_step (blk_cell HEX4.out rfl) s.2
          have u3 : ∀ s : WStep W4, s.1.cell? ⟨P, 3, none⟩ = some (.int .i64 b1) := fun s => cell_step (blk_cell HEX4.out rfl) s.2
          have u4 : ∀ s : WStep W4, s.1.cell? ⟨P, 4, none⟩ = some (.string nm) := fun s => cell_step (blk_cell HEX4.out rfl) s.2
          have u5 : ∀ s : WStep W4, s.1.cell? ⟨P, 5, none⟩ = some (.string ot) := fun s => cell_step (blk_cell HEX4.out rfl) s.2
          have u6 : ∀ s : WStep W4, s.1.cell? ⟨P, 6, none⟩ = some (.int .i64 (n : Int)) := fun s => cell_step (blk_cell HEX4.out rfl) s.2
          have u7 : ∀ s : WStep W4, s.1.cell? ⟨P, 7, none⟩ = some (.int .i64 (m : Int)) := fun s => cell_step (blk_cell HEX4.out rfl) s.2
          have HUE : Hid (∀ s : WStep W4, ∀ (j : Nat) (u : Value), (entC ((k, t, a1, b1, nm, ot), (n : Int), (m : Int), head, tag))[j]? = some u → s.1.cell? ⟨P, 0 + j, none⟩ = some u) := fun s j u hj => cell_step (blk_cell HEX4.out (by rw [Nat.zero_add]; simpa using hj)) s.2
          obtain ⟨pd, hpd⟩ : ∃ pd, bk.2[m]? = some pd := ⟨bk.2[m]'(by omega), List.getElem?_eq_getElem (by omega)⟩
          have HBD := Lib.hid (HS.out.2.2.2 bk (List.mem_of_getElem? HBK.out))
          have HPD := Lib.hid hpd
          clear hpd
          have CN : Hid (∀ s : WStep W4, Calls Tryz.prog 45 #[.pointer (some ⟨C, 0, none⟩), .int .u64 (pt : Int), .slice (some ⟨bb, ob, none⟩) bks.length cb, .agg #[.int .i64 k, .int .i64 t, .int .i64 a1, .int .i64 b1, .string nm, .string ot], .int .i64 (n : Int), .int .i64 (m : Int)] s.1 fun e w' => e = .returned (entX (nextE pt bks (headOf pt name (es.take i)) (k, t, a1, b1, nm, ot) n m)) ∧ ∃ t : WStep W4, w' = t.1) := fun s =>
           step_call s (Next_any pt cb C 0 (headOf pt name (es.take i)) n m pd bk (k, t, a1, b1, nm, ot) HOK.out HSZ.out (HB.out.step (bStep HB4.out s.2)) (cell_step (blk_cell HV4.out.chain rfl) s.2) (Nat.lt_of_lt_of_le (blk_lt HV4.out.chain) s.2.size) HBK.out HS.out.2.2.1.2 HPD.out (by have := HBD.out.2.1; omega) (by have := HS.out.2.1.2; unfold P31 at this; omega) (by have := HBD.out.1.2; unfold P31 at this; omega) (by have := HBD.out.2.2 pd (List.mem_of_getElem? HPD.out); unfold P31 at this; omega))
          have HRT := Lib.hid (rt_5 (pt := pt) (bks := bks) (name := name) (pre := es.take i) (x := ((k, t, a1, b1, nm, ot), (n : Int), (m : Int), head, tag)) HOK.out HCAN.out HIN.out HPRF.out)
          obtain ⟨NE, hNE⟩ : ∃ NE, nextE pt bks (headOf pt name (es.take i)) (k, t, a1, b1, nm, ot) n m = NE := ⟨_, rfl⟩
          rw [hNE] at CN
          have HNEq := Lib.hid hNE
          clear hNE
          cases hb : entB NE ((k, t, a1, b1, nm, ot), (n : Int), (m : Int), head, tag)
          ·have HBE := Lib.hid hb
           clear hb
           have HF := Lib.hid (HST.out (by rw [HRT.out]; dsimp only; rw [Int.toNat_natCast, Int.toNat_natCast, HNEq.out]; exact HBE.out))
           refine wp_region_lock (by kernel_rfl) (by kernel_rfl) ?_
           repeat (first | (refine WQ.skip rfl rfl rfl rfl ?_; simp only [Act.put, List.setIfInBounds_toArray, List.set_cons_zero, List.set_cons_succ, List.set_nil]) | (apply WQ.val; (exact rfl); (intro w9 hw9; obtain ⟨s9, rfl⟩ := hw9; with_reducible refine entload_at ((k, t, a1, b1, nm, ot), (n : Int), (m : Int), head, tag) (.tmp 16) P 0 rfl rfl (HUE.out s9)); simp only [Act.put, List.setIfInBounds_toArray, List.set_cons_zero, List.set_cons_succ, List.set_nil]) | (apply WQ.val; (exact rfl); (intro w9 hw9; refine entneq_at NE ((k, t, a1, b1, nm, ot), (n : Int), (m : Int), head, tag) (.tmp 107) (.tmp 108) _ rfl rfl rfl (r := true) (by rw [HBE.out]; rfl)); simp only [Act.put, List.setIfInBounds_toArray, List.set_cons_zero, List.set_cons_succ, List.set_nil]) | ((first | (apply WQ.val; (exact rfl)) | (apply WQ.valg; (exact rfl); (exact rfl); (exact rfl))); (intro w9 hw9; obtain ⟨s9, rfl⟩ := hw9; simp [go_sem, u0, u1, u2, u3, u4, u5, u6, u7]; first | done | exact rfl | (with_reducible exact CN.out s9)); simp only [Act.put, List.setIfInBounds_toArray, List.set_cons_zero, List.set_cons_succ, List.set_nil]))
           refine WQ.fin fun W5 hW5 => ?_
           go_wp2_with fail
           exact bodyPost_ret (v := .tuple #[.int .i64 (i : Int), .bool false, .int .i64 0]) (by simp only [results, Tryz.results12]; go_simp) rfl ⟨by rw [HF.out, decide_eq_false HNE.out], bStep HB4.out hW5⟩
          ·have HBE := Lib.hid hb
           clear hb
           have HR2 := Lib.hid (HR.out.snoc HK.out (by rw [HRT.out]; dsimp only; rw [Int.toNat_natCast, Int.toNat_natCast, HNEq.out]; exact HBE.out))
           refine wp_region_lock (by kernel_rfl) (by kernel_rfl) ?_
           repeat (first | (refine WQ.skip rfl rfl rfl rfl ?_; simp only [Act.put, List.setIfInBounds_toArray, List.set_cons_zero, List.set_cons_succ, List.set_nil]) | (apply WQ.val; (exact rfl); (intro w9 hw9; obtain ⟨s9, rfl⟩ := hw9; with_reducible refine entload_at ((k, t, a1, b1, nm, ot), (n : Int), (m : Int), head, tag) (.tmp 16) P 0 rfl rfl (HUE.out s9)); simp only [Act.put, List.setIfInBounds_toArray, List.set_cons_zero, List.set_cons_succ, List.set_nil]) | (apply WQ.val; (exact rfl); (intro w9 hw9; refine entneq_at NE ((k, t, a1, b1, nm, ot), (n : Int), (m : Int), head, tag) (.tmp 107) (.tmp 108) _ rfl rfl rfl (r := false) (by rw [HBE.out]; rfl)); simp only [Act.put, List.setIfInBounds_toArray, List.set_cons_zero, List.set_cons_succ, List.set_nil]) | ((first | (apply WQ.val; (exact rfl)) | (apply WQ.valg; (exact rfl); (exact rfl); (exact rfl))); (intro w9 hw9; obtain ⟨s9, rfl⟩ := hw9; simp [go_sem, u0, u1, u2, u3, u4, u5, u6, u7]; first | done | exact rfl | (with_reducible exact CN.out s9)); simp only [Act.put, List.setIfInBounds_toArray, List.set_cons_zero, List.set_cons_succ, List.set_nil]))
           refine WQ.fin fun W5 hW5 => ?_
           go_upto_region 19 with fail
           have HV5 := Lib.hid (HV4.out.step (w2 := W5.alloc (.cells #[.int .i64 (n : Int), .int .i64 (m : Int)] 101)) (bStep hW5 bAl))
           have HEX5 := Lib.hid (blk_step HEX4.out (bStep hW5 (bAl (W := W5) (o := .cells #[.int .i64 (n : Int), .int .i64 (m : Int)] 101))))
           have HQ5 := blk_step HQ4.out hW5
           have p0 : W5.cell? ⟨Q, 0, none⟩ = some (.int .i64 (n : Int)) := blk_cell HQ5 rfl
           have p1 : W5.cell? ⟨Q, 1, none⟩ = some (.int .i64 (m : Int)) := blk_cell HQ5 rfl
           have pl := blk_lt HQ5
           clear u0 u1 u2 u3 u4 u5 u6 u7 CN HUE hW5 HQ5 HRT
           have hsz5 : N ≤ (W5.alloc (.cells #[.int .i64 (n : Int), .int .i64 (m : Int)] 101)).heap.size := HV5.out.pl.2.2.2
           have hle5 : (es.take i).length ≤ 500 := by rw [List.length_take]; have := HN.out.2; omega
           have HS5 := Lib.hid (And.intro hsz5 hle5)
           clear hsz5 hle5
           go_upto_region 20 with (at_builtin; refine wpList_app _ rfl (.tmp 111) (.tmp 113) 100 rfl N 101 i0 _ 2 16 Tryz.underlying100 HI0.out.1 HI0.out.2.1 HI0.out.2.2.1 HI0.out.2.2.2 rfl (by decide) _ (es.take i).length (flatP (prOf (es.take i))) rfl HV5.out.used (some ⟨W5.heap.size, 0, none⟩) 1 1 [.int .i64 (n : Int), .int .i64 (m : Int)] rfl rfl new_cells2 (pr_one _ _) (by have := HS5.out.2; unfold maxLen; omega) (by have := HS5.out.2; omega) HS5.out.1 ?_; intro v' w9 hown hgrow hat; have HA := Lib.hid (And.intro hown hgrow); clear hown hgrow hat)
           obtain ⟨⟨vm5, vo5, hl5, hn5⟩, hc5, hb5⟩ := HV5.out.app (x := 0) (y := 0) (v' := v') HA.out.2
           have HEX9 := Lib.hid (grown_other HV5.out.used HA.out.2 HEX5.out (by decide))
           have CA : Hid (Calls Tryz.prog 46 #[.pointer (some ⟨X, 0, none⟩), .agg #[.int .i64 k, .int .i64 t, .int .i64 a1, .int .i64 b1, .string nm, .string ot]] w9 fun en w' => en = .returned (.tuple #[]) ∧ ∃ vm' vo', LifeAt 93 X 0 name ((lifeOf name (evsOf (es.take i))).add name (k, t, a1, b1, nm, ot)) vm' vo' w' ∧ OnlyB 93 X 0 18 w9 w') :=
            add_any (by decide) hl5 HLN.out.1 HLN.out.2 HN.out.1 (fun e => by
             have e2 : es.take i = [] := by rw [life_n] at e; unfold evsOf at e; rw [List.length_map] at e; exact List.length_eq_zero_iff.1 e
             rw [e2] at hn5 ⊢
             exact ⟨hn5 rfl, rfl⟩) (k, t, a1, b1, nm, ot) HOK.out (by rw [can_same HLG.out.1]; exact HCAN.out)
           have HC9 := Lib.hid hc5
           have u0 : w9.cell? ⟨P, 0, none⟩ = some (.int .i64 k) := blk_cell HEX9.out rfl
           have u1 : w9.cell? ⟨P, 1, none⟩ = some (.int .i64 t) := blk_cell HEX9.out rfl
           have u2 : w9.cell? ⟨P, 2, none⟩ = some (.int .i64 a1) := blk_cell HEX9.out rfl
           have u3 : w9.cell? ⟨P, 3, none⟩ = some (.int .i64 b1) := blk_cell HEX9.out rfl
           have u4 : w9.cell? ⟨P, 4, none⟩ = some (.string nm) := blk_cell HEX9.out rfl
           have u5 : w9.cell? ⟨P, 5, none⟩ = some (.string ot) := blk_cell HEX9.out rfl
           have ul := blk_lt HEX9.out
           clear hl5 hn5 hc5 hb5 p0 p1 pl
           go_upto_region 21 with (go_at_call 46; refine CA.out.mono ?_; rintro e w10 ⟨rfl, vm6, vo6, hl6, ho6⟩)
           have HL6 := Lib.hid (And.intro hl6 ho6)
           have hC6 : w10.heap[C]? = some (.cells #[.int .u64 (headOf pt name (es.take i) : Int)] 99 (0, 0)) := (ho6.block C (blk_lt HC9.out) (by have := HV5.out.pl; omega)).trans HC9.out
           have hP6 : w10.heap[P]? = some (.cells (entC ((k, t, a1, b1, nm, ot), (n : Int), (m : Int), head, tag)).toArray 31 (0, 0)) := (ho6.block P (blk_lt HEX9.out) (by have := HPX.out; omega)).trans HEX9.out
           have x0 : w10.cell? ⟨C, 0, none⟩ = some (.int .u64 (headOf pt name (es.take i) : Int)) := blk_cell hC6 rfl
           have x1 := blk_free (o := 0) hC6
           have x2 := blk_lt hC6
           have x3 : w10.cell? ⟨P, 8, none⟩ = some (.int .u64 (head : Int)) := blk_cell hP6 rfl
           have x4 := blk_lt hP6
           clear hl6 ho6 hC6 hP6 u0 u1 u2 u3 u4 u5 ul
           have hTK : es.take (i + 1) = es.take i ++ [((k, t, a1, b1, nm, ot), (n : Int), (m : Int), head, tag)] := by rw [List.take_add_one, HK.out]; rfl
           have HV6 : Hid (VfS w X C N pt name (es.take (i + 1)) v' (w10.setCell ⟨C, 0, none⟩ (.int .u64 (head : Int)))) := by
            unfold Hid
            rw [hTK]
            exact HV5.out.next HA.out.2 HA.out.1 HL6.out.1 HL6.out.2
           clear hTK
           go_wp2_with fail
           exact ⟨⟨i + 1, by omega, by push_cast; rfl, HR2, HV6⟩, by simp [intOf]; omega⟩
  ·obtain rfl : i = es.length := by omega
   have HF := Lib.hid HR.out.all
   have HB9 := Lib.hid HV.out.bel
   clear hc
   go_wp2_with fail
   exact bodyPost_ret (v := .tuple #[.int .i64 (es.length : Int), .bool true, .int .i64 0]) (by simp only [results, Tryz.results12]; go_simp) rfl ⟨by rw [HF.out, decide_eq_true rfl], HB9.out⟩
theorem Verify_any {a ab : Option Addr} {es : List Ent} {bks : List Bk} {w : World} (pt c cb : Nat) (name : ByteArray) (hE : EntAt a es w) (hB : BksAt ab bks w) (hG : Glob0 w)
  (hes : es.length ≤ 1000000 ∧ ∀ y ∈ es, y.1.2.2.2.2.1.size ≤ 100 ∧ y.1.2.2.2.2.2.size ≤ 100) (hbl : bks.length ≤ 1000000 ∧ ∀ bk ∈ bks, bk.2.length ≤ 1000000) (hnm : name.size ≤ 1000) :
  Calls Tryz.prog 12 #[.int .u64 (pt : Int), .slice ab bks.length cb, .string name, .slice a es.length c] w fun e w' => e = .returned (verV (verR pt bks name es)) ∧ Below w.heap.size w w' := by
 by_cases h1 : secR pt bks = 0
 ·cases h2 : nameB name
  ·exact Verify_2 pt c cb name hE hB hG hes hbl hnm h1 h2
  ·by_cases h3 : 500 < es.length
   ·exact Verify_3 pt c cb name hE hB hG hes hbl hnm h1 h2 h3
   ·exact Verify_4 pt c cb name hE hB hG hes hbl hnm h1 h2 h3
 ·exact Verify_1 pt c cb name hE hB hG hes hbl hnm h1
end Go.Proofs.YtmpilgkfbibhlaaGreatDoor
