/-
 affected of package passport.
-/
import Derived.Test.YtmpilgkfbibhlaaGreatDoorG28R
import Derived.WalkMore
set_option linter.unusedSimpArgs false
set_option linter.unusedVariables false
namespace Go.Proofs.YtmpilgkfbibhlaaGreatDoor
open Sx Go.RowKit Mr
def affF (a : RegA) (bt : ByteArray) (t0 t1 : Int) (r : ByteArray) (i : Nat) : Bool := match a.ps[i]? with
 | some p => affP a bt t0 t1 r p
 | none => false
def affTo (a : RegA) (bt : ByteArray) (t0 t1 : Int) (r : ByteArray) (i : Nat) : List Nat := (List.range i).filter (affF a bt t0 t1 r)
section
variable {a : RegA} {bt r : ByteArray} {t0 t1 : Int} {i : Nat} {p : ByteArray × List Ent}
theorem affTo_no (hp : a.ps[i]? = some p) (h : affP a bt t0 t1 r p = false) : affTo a bt t0 t1 r (i + 1) = affTo a bt t0 t1 r i := by
 unfold affTo
 rw [List.range_succ, List.filter_append]
 have : affF a bt t0 t1 r i = false := by unfold affF; rw [hp]; exact h
 simp [this]
theorem affTo_yes (hp : a.ps[i]? = some p) (h : affP a bt t0 t1 r p = true) : affTo a bt t0 t1 r (i + 1) = affTo a bt t0 t1 r i ++ [i] := by
 unfold affTo
 rw [List.range_succ, List.filter_append]
 have : affF a bt t0 t1 r i = true := by unfold affF; rw [hp]; exact h
 simp [this]
theorem affTo_len : (affTo a bt t0 t1 r i).length ≤ i := by
 unfold affTo
 exact Nat.le_trans (List.length_filter_le _ _) (by simp)
def hitP (a : RegA) (bt : ByteArray) (t0 t1 : Int) (r : ByteArray) (p : ByteArray × List Ent) (m : ByteArray) : Bool := !(hasT (lf p).os r) && hitA a bt t0 t1 m
theorem affP_no (h : ∀ m ∈ (lf p).ms, hitP a bt t0 t1 r p m = false) : affP a bt t0 t1 r p = false := by
 unfold affP
 cases hh : hasT (lf p).os r with
 | true => rfl
 | false =>
  rw [Bool.not_false, Bool.true_and, Bool.eq_false_iff]
  intro c
  obtain ⟨m, hm, h2⟩ := List.any_eq_true.1 c
  have := h m hm
  unfold hitP at this
  rw [hh, h2] at this
  cases this
theorem affP_yes {m : ByteArray} (hm : m ∈ (lf p).ms) (h : hitP a bt t0 t1 r p m = true) : affP a bt t0 t1 r p = true := by
 unfold hitP at h
 unfold affP
 rw [Bool.and_eq_true] at h ⊢
 exact ⟨h.1, List.any_eq_true.2 ⟨m, hm, h.2⟩⟩
theorem hitA_at {o : ByteArray × List Ent} {m : ByteArray} (ho : a.ps[findA (cutS m).1 a]? = some o) : hitA a bt t0 t1 m = (eqT (lf o).made.2.2.2.2.1 bt && decide (t0 ≤ (lf o).made.2.1) && decide ((lf o).made.2.1 ≤ t1)) := by
 unfold hitA; rw [ho]
end
theorem OkA.origin {a : RegA} (ho : OkA a) {p : ByteArray × List Ent} (hp : p ∈ a.ps) {m : ByteArray} (hm : m ∈ (lf p).ms) : ∃ o, a.ps[findA (cutS m).1 a]? = some o := by
 obtain ⟨o, h1, h2⟩ := ho.org p hp m hm
 have hl : findA (cutS m).1 a < a.ps.length := List.findIdx_lt_length.2 ⟨o, h1, by rw [eqT_iff]; exact h2⟩
 exact ⟨_, List.getElem?_eq_getElem hl⟩
theorem modN_list (nm : ByteArray) (i : Nat) : (modN nm i).data.toList = nm.data.toList ++ 58 :: Lib.itoa (i : Int) := by
 unfold modN
 simp [ByteArray.data_append]
theorem modN_mod {nm : ByteArray} (hn : nameB nm = true) {i : Nat} (hi : i < 32) : modB (modN nm i) = true ∧ (cutS (modN nm i)).1 = nm :=
 mAt_mod (o := nm.data.toList) hi (modN_list nm i) (by simpa using hn)
theorem put_mod {t a b : Int} {nm ot : ByteArray} (h : okE 5 t a b nm ot = true) : modB nm = true := by
 unfold okE chkE chkB at h
 revert h
 generalize modB nm = x2
 generalize nameB ot = x3
 cases x2 <;> cases x3 <;> simp
theorem lifeOf_modB (nm : ByteArray) (hn : nameB nm = true) : ∀ h : List Evt, (∀ e ∈ h, okX e = true) → ∀ m ∈ (lifeOf nm h).ms, modB m = true := by
 refine snocInd (fun _ m hm => by cases hm) fun h e ih hh m hm => ?_
 have ih2 := ih fun e' he' => hh e' (List.mem_append_left _ he')
 have he : okX e = true := hh e (by simp)
 rw [lifeOf_snoc] at hm
 obtain ⟨k, t, ea, eb, n1, ot⟩ := e
 change m ∈ modStep nm (lifeOf nm h).ms (k, t, ea, eb, n1, ot) at hm
 unfold modStep at hm
 dsimp only at hm
 split at hm
 ·rename_i c
  subst c
  rcases List.mem_append.1 hm with hm | hm
  ·exact ih2 m hm
  ·obtain ⟨i, hi, rfl⟩ := List.mem_map.1 hm
   have hb := (made_b he).2
   exact (modN_mod hn (by have := List.mem_range.1 hi; omega)).1
 ·split at hm
  ·rename_i c
   subst c
   rcases List.mem_append.1 hm with hm | hm
   ·exact ih2 m hm
   ·obtain rfl := List.mem_singleton.1 hm
    exact put_mod he
  ·split at hm
   ·exact ih2 m (List.mem_filter.1 hm).1
   ·exact ih2 m hm
theorem OkB.mods {a : RegA} (ho : OkB a) {p : ByteArray × List Ent} (hp : p ∈ a.ps) {m : ByteArray} (hm : m ∈ (lf p).ms) : modB m = true := by
 obtain ⟨h1, h2, h3, h4⟩ := ho.p p hp
 exact lifeOf_modB p.1 h4 _ h3 m hm
theorem LifeAt.made {T : TypeId} {B off : Nat} {name : ByteArray} {x : LifeS} {vm vo : Value} {W : World} (h : LifeAt T B off name x vm vo W) {k t ea eb : Int} {n1 ot : ByteArray} (hm : x.made = (k, t, ea, eb, n1, ot)) : ∀ (j : Nat) (u : Value), [Value.int .i64 k, .int .i64 t, .int .i64 ea, .int .i64 eb, .string n1, .string ot][j]? = some u → W.cell? ⟨B, off + 3 + j, none⟩ = some u := by
 intro j u hj
 rw [Nat.add_assoc]
 refine h.cell ?_
 have e : lifeCs name x vm vo = [.string name, .int .i64 (x.n : Int), .int .i64 x.at_] ++ [Value.int .i64 k, .int .i64 t, .int .i64 ea, .int .i64 eb, .string n1, .string ot] ++ [vm, vo, .int .i64 x.thr, .int .i64 x.hot, .bool x.tst, .int .i64 x.tes, .int .i64 x.fau, .int .i64 x.mov, .bool x.scr] := by unfold lifeCs; rw [hm]; rfl
 have hj6 : j < 6 := (List.getElem?_eq_some_iff.1 hj).1
 rw [e, List.append_assoc, List.getElem?_append_right (by simp), List.getElem?_append_left (by simp; omega)]
 rw [← hj]
 congr 1
 simp
def pkPtr (vp : Value) (i : Nat) : Value := ptrK vp (i + 1) i
theorem pkPtr_at {PB n cp i : Nat} : pkPtr (.slice (some ⟨PB, 0, none⟩) n cp) i = .pointer (some ⟨PB, i * 20, none⟩) := by unfold pkPtr ptrK; dsimp only; rw [if_pos (by omega)]
theorem infoPp : (Tryz.prog.info? 112).map (fun i => (i.zero, i.size, i.bytes)) = some (some (.pointer none), 1, 8) := by kernel_rfl
theorem ev_size : (Tryz.prog.info? 29).map (·.size) = some 6 := by kernel_rfl
set_option maxHeartbeats 4000000 in
set_option maxRecDepth 20000 in
theorem affected_any {B R : Nat} {a : RegA} {g : RegS} {vb vp : Value} {w : World} (h : RegV B R vb a g vp w) (ho : OkA a) (hG : Glob0 w) (bt r : ByteArray) (t0 t1 : Int) :
  Calls Tryz.prog 61 #[.pointer (some ⟨R, 0, none⟩), .string bt, .int .i64 t0, .int .i64 t1, .string r] w fun en w' => ∃ v', en = .returned v' ∧ w'.ownsRow w.heap.size 112 1 v' (affA a bt t0 t1 r).length ((affA a bt t0 t1 r).map (pkPtr vp)) ∧ Below w.heap.size w w' := by
 have hlen := h.len
 have hnp := ho.np
 have hqn : g.qs.length ≤ 100 := by omega
 have H := Lib.hid h
 obtain ⟨pa, cp, hvp⟩ := h.ra.vpS
 subst hvp
 have CM := Lib.hid (fun m (hm : m.size ≤ 1000000) W (hW : Below w.heap.size w W) => isModule_any m W hm (gstep hG hW))
 have CF0 := Lib.hid (fun nm W (hW : Below w.heap.size w W) => find_any (h.ra.step hW) nm (by omega))
 have HO := Lib.hid ho
 have HLN := Lib.hid hlen
 have HNP := Lib.hid hnp
 have G10 := Lib.hid h.ra.cells.2.2.1
 have HRL := Lib.hid h.ra.cells.2.2.2.1
 have g10 := G10.out
 have hR := HRL.out
 clear h ho hG hlen hnp
 go_enter Tryz.func61, Tryz.ntmps61
 go_wp2_with fail
 apply wp_scope_straight
 go_wp2_with fail
 apply wp_label
 go_wp2_with fail
 clear g10 hR
 go_loopw [11, 24] (fun vo ix wr => ∃ i : Nat, i ≤ g.qs.length ∧ ix = .int .i64 i ∧ Hid (wr.ownsRow w.heap.size 112 1 vo (affTo a bt t0 t1 r i).length ((affTo a bt t0 t1 r i).map (pkPtr (.slice pa g.qs.length cp)))) ∧ Hid (Below w.heap.size w wr)) (fun _ ix _ => g.qs.length - (intOf ix).toNat)
 case atStart => exact ⟨0, by omega, rfl, ⟨rfl, Or.inl ⟨rfl, rfl⟩⟩, Below.refl _ _⟩
 case round =>
  obtain ⟨i, hi, rfl, HQ, HW⟩ := hrel
  have g10 : wr.cell? ⟨R, 10, none⟩ = some (.slice pa g.qs.length cp) := cell_step G10.out HW.out
  have hR := Nat.lt_of_lt_of_le HRL.out HW.out.size
  by_cases hc : i < g.qs.length
  ·have c1 : (i : Int) < g.qs.length := by omega
   have c0 : (0 : Int) ≤ i := by omega
   obtain ⟨p, hp⟩ : ∃ p, a.ps[i]? = some p := ⟨a.ps[i]'(by have := HLN.out; omega), List.getElem?_eq_getElem _⟩
   obtain ⟨PB, cp2, cur, ea, hPB, hbP, -⟩ := H.out.ra.packs (by rintro e; rw [e] at hc; simp at hc)
   cases ea
   obtain ⟨q, hq, e1, e2, e3, e4⟩ := H.out.get hp
   have hL := (H.out.ra.life rfl hq).1
   have hbl := HO.out.toOkB.life (List.mem_of_getElem? hp)
   have HPm := Lib.hid (List.mem_of_getElem? hp)
   have HP := Lib.hid hp
   rw [e3] at hL
   obtain ⟨am, cm, hvm, hmc⟩ := hL.ms.cells
   have HMC0 := Lib.hid hmc
   have HL := Lib.hid hL
   have n9 := cell_step hL.open1.2.2.2.1 HW.out
   rw [hvm] at n9
   have hPl := Nat.lt_of_lt_of_le (blk_lt hbP) HW.out.size
   have HPL := Lib.hid (blk_lt hbP)
   have HML := Lib.hid hbl.2
   have hmlen := hbl.2.1
   have HCI := Lib.hid hc
   clear hc hp hq e1 e2 e3 e4 hL hbl hmc hbP hPB
   obtain ⟨wo, rfl⟩ : ∃ wo : World, wo = wr := ⟨_, rfl⟩
   go_wp2_with fail
   go_hide hQ
   go_loopw [11, 39] (fun vo jx wr => ∃ j : Nat, j ≤ (lf p).ms.length ∧ jx = .int .i64 j ∧ Hid (∀ m ∈ (lf p).ms.take j, hitP a bt t0 t1 r p m = false) ∧ Hid (wo.ownsRow w.heap.size 112 1 vo (affTo a bt t0 t1 r i).length ((affTo a bt t0 t1 r i).map (pkPtr (.slice (some ⟨PB, 0, none⟩) g.qs.length cp)))) ∧ Hid (Below wo.heap.size wo wr)) (fun _ jx _ => (lf p).ms.length - (intOf jx).toNat)
   case atStart => exact ⟨0, by omega, rfl, (fun m hm => by simp at hm), HQ, Below.refl _ _⟩
   case round =>
    clear HQ
    obtain ⟨j, hj, rfl, HJ, HQ, HX⟩ := hrel
    have HBW := Lib.hid (bStep HW.out HX.out)
    by_cases hcj : j < (lf p).ms.length
    ·have d1 : (j : Int) < (lf p).ms.length := by omega
     have d0 : (0 : Int) ≤ j := by omega
     obtain ⟨m, hm⟩ : ∃ m, (lf p).ms[j]? = some m := ⟨(lf p).ms[j], List.getElem?_eq_getElem hcj⟩
     have hmm := List.mem_of_getElem? hm
     obtain ⟨bm, om, rfl, hbm, hcm⟩ := HMC0.out (by rintro e; rw [e] at hm; cases hm)
     have g7 := cell_step (hcm j m hm) HBW.out
     have l7 := Nat.lt_of_lt_of_le hbm HBW.out.size
     have hmod := HO.out.toOkB.mods HPm.out hmm
     obtain ⟨oo, hoo⟩ := HO.out.origin HPm.out hmm
     obtain ⟨x, hx, f1, f2, f3, f4⟩ := H.out.get hoo
     have hox := (List.getElem?_eq_some_iff.1 hoo).1
     have hLx := (H.out.ra.life rfl hx).1
     rw [f3] at hLx
     have hit := hitA_at (bt := bt) (t0 := t0) (t1 := t1) hoo
     obtain ⟨⟨mk, mt, ma, mb, mn, mo⟩, hmd⟩ : ∃ z, (lf oo).made = z := ⟨_, rfl⟩
     have HMC := Lib.hid (hLx.made hmd)
     have CM := Lib.hid (CM.out m (by have := modB_size hmod; omega))
     rw [hmod] at CM
     have CF := Lib.hid (CF0.out (cutS m).1)
     rw [H.out.find, ptr_yes (by have := HLN.out; omega)] at CF
     have HHT : Hid (hitP a bt t0 t1 r p m = (!(hasT (lf p).os r) && (eqT mn bt && decide (t0 ≤ mt) && decide (mt ≤ t1)))) := by unfold Hid hitP; rw [hit, hmd]
     have HMM := Lib.hid hmm
     have HM := Lib.hid hm
     generalize (cutS m).1 = o1 at *
     generalize findA o1 a = o at *
     clear hm hmm hcm hbm hmod hoo hx f1 f2 f3 f4 hox hLx hit hmd hcj
     go_upto_region 11 with (first | (go_at_call 67; refine (CM.out _ HBW.out).mono ?_; rintro e w1 ⟨rfl, hbn⟩; have HX1 := Lib.hid (bStep HX.out hbn); have HB1 := Lib.hid (bStep HW.out HX1.out); clear hbn) | (go_at_call 57; refine (CF.out _ HB1.out).mono ?_; rintro e w2 ⟨rfl, hbn⟩; have HX2 := Lib.hid (bStep HX1.out hbn); have HB2 := Lib.hid (bStep HB1.out hbn); have HMC2 := Lib.hid (fun j u hj => cell_step (HMC.out j u hj) HB2.out); have lP := Nat.lt_of_lt_of_le HPL.out HB2.out.size; clear hbn) | (refine wpList_load_mid rfl 29 (.tmp 53) rfl PB (o * 20 + 3) rfl [.int .i64 mk, .int .i64 mt, .int .i64 ma, .int .i64 mb, .string mn, .string mo] _ HMC2.out Tryz.underlying29 rfl ev_size ?_))
     have HT3 := Lib.hid (blk_new w2 (.cells #[.int .i64 mk, .int .i64 mt, .int .i64 ma, .int .i64 mb, .string mn, .string mo] 29))
     have HX3 := Lib.hid (bStep HX2.out (bAl (W := w2) (o := (.cells #[.int .i64 mk, .int .i64 mt, .int .i64 ma, .int .i64 mb, .string mn, .string mo] 29))))
     generalize w2.alloc (.cells #[.int .i64 mk, .int .i64 mt, .int .i64 ma, .int .i64 mb, .string mn, .string mo] 29) = w3 at *
     generalize w2.heap.size = T3 at *
     have HB3 := Lib.hid (bStep HW.out HX3.out)
     have y1 := blk_cell (o := 1) HT3.out rfl
     have y4 := blk_cell (o := 4) HT3.out rfl
     have yl := blk_lt HT3.out
     have n10 := cell_step HL.out.open1.2.2.2.2.1 HB3.out
     have lP3 := Nat.lt_of_lt_of_le HPL.out HB3.out.size
     have CH := Lib.hid (has_any (HL.out.os.step HB3.out) (by have := HML.out.2; omega) r)
     clear HX1 HX2 HB1 HB2 HMC HMC2 lP CM CF
     by_cases h1 : (mn.toList == bt.toList) = true
     rotate_left
     ·have h2 : (mn.toList == bt.toList) = false := by simpa using h1
      clear h1
      have HJ2 : Hid (∀ m ∈ (lf p).ms.take (j + 1), hitP a bt t0 t1 r p m = false) := fun m9 hm9 => by
       rw [List.take_add_one, HM.out] at hm9
       rcases List.mem_append.1 hm9 with c | c
       ·exact HJ.out m9 c
       ·obtain rfl : m9 = m := by simpa using c
        rw [HHT.out]
        simp [eqT, h2]
      go_wp2_with (go_at_call 99; refine CH.out.mono ?_; rintro e w5 ⟨rfl, hw5⟩; have hw6 := hw5.symm; clear hw5; subst hw6)
      exact ⟨⟨j + 1, by omega, by push_cast; rfl, HJ2, HQ, HX3⟩, by simp [intOf]; omega⟩
     ·by_cases h2 : t0 ≤ mt
      rotate_left
      ·have h3 : mt < t0 := by omega
       have HJ2 : Hid (∀ m ∈ (lf p).ms.take (j + 1), hitP a bt t0 t1 r p m = false) := fun m9 hm9 => by
        rw [List.take_add_one, HM.out] at hm9
        rcases List.mem_append.1 hm9 with c | c
        ·exact HJ.out m9 c
        ·obtain rfl : m9 = m := by simpa using c
         rw [HHT.out]
         simp [h2]
       go_wp2_with (go_at_call 99; refine CH.out.mono ?_; rintro e w5 ⟨rfl, hw5⟩; have hw6 := hw5.symm; clear hw5; subst hw6)
       exact ⟨⟨j + 1, by omega, by push_cast; rfl, HJ2, HQ, HX3⟩, by simp [intOf]; omega⟩
      ·by_cases h3 : mt ≤ t1
       rotate_left
       ·have h4 : t1 < mt := by omega
        have HJ2 : Hid (∀ m ∈ (lf p).ms.take (j + 1), hitP a bt t0 t1 r p m = false) := fun m9 hm9 => by
         rw [List.take_add_one, HM.out] at hm9
         rcases List.mem_append.1 hm9 with c | c
         ·exact HJ.out m9 c
         ·obtain rfl : m9 = m := by simpa using c
          rw [HHT.out]
          simp [h3]
        go_wp2_with (go_at_call 99; refine CH.out.mono ?_; rintro e w5 ⟨rfl, hw5⟩; have hw6 := hw5.symm; clear hw5; subst hw6)
        exact ⟨⟨j + 1, by omega, by push_cast; rfl, HJ2, HQ, HX3⟩, by simp [intOf]; omega⟩
       ·have h5 : mt ≥ t0 := h2
        cases h4 : hasT (lf p).os r
        rotate_left
        ·rw [h4] at CH
         have HJ2 : Hid (∀ m ∈ (lf p).ms.take (j + 1), hitP a bt t0 t1 r p m = false) := fun m9 hm9 => by
          rw [List.take_add_one, HM.out] at hm9
          rcases List.mem_append.1 hm9 with c | c
          ·exact HJ.out m9 c
          ·obtain rfl : m9 = m := by simpa using c
           rw [HHT.out]
           simp [h4]
         go_wp2_with (go_at_call 99; refine CH.out.mono ?_; rintro e w5 ⟨rfl, hw5⟩; have hw6 := hw5.symm; clear hw5; subst hw6)
         exact ⟨⟨j + 1, by omega, by push_cast; rfl, HJ2, HQ, HX3⟩, by simp [intOf]; omega⟩
        ·rw [h4] at CH
         have HYS := Lib.hid (affTo_yes HP.out (affP_yes HMM.out (by rw [HHT.out, h4]; simp [eqT, h1, h2, h3])))
         have HRW := Lib.hid (own_step (own_step HQ.out HX3.out) (bAl (o := .cells #[.pointer (some ⟨PB, i * 20, none⟩)] 112)))
         obtain ⟨i0, hi0, hz0, hz1, hz2⟩ := info_parts infoPp
         have HI0 := Lib.hid (And.intro hi0 (And.intro hz0 (And.intro hz1 hz2)))
         have HLL := Lib.hid (Nat.le_trans (affTo_len (a := a) (bt := bt) (t0 := t0) (t1 := t1) (r := r) (i := i)) (show i ≤ 100 by have := HLN.out; have := HNP.out; have := HCI.out; omega))
         clear hi0 hz0 hz1 hz2
         go_wp2_with (first | (go_at_call 99; refine CH.out.mono ?_; rintro e w5 ⟨rfl, hw5⟩; have hw6 := hw5.symm; clear hw5; subst hw6) | (at_builtin; refine wpList_app _ rfl (.tmp 81) (.tmp 83) 123 rfl w.heap.size 112 i0 _ 1 8 Tryz.underlying123 HI0.out.1 HI0.out.2.1 HI0.out.2.2.1 HI0.out.2.2.2 rfl (by decide) _ (affTo a bt t0 t1 r i).length ((affTo a bt t0 t1 r i).map (pkPtr (.slice (some ⟨PB, 0, none⟩) g.qs.length cp))) rfl HRW.out (some ⟨w3.heap.size, 0, none⟩) 1 1 [.pointer (some ⟨PB, i * 20, none⟩)] rfl rfl new_cellsB (by intro u hu; rw [List.mem_singleton.1 hu]; rfl) (by have := HLL.out; unfold maxLen; omega) (by have := HLL.out; omega) (by have := HB3.out.size; simp; omega) ?_; intro v' w5 hown hgrow hat; have HO5 := Lib.hid hown; have HG5 := Lib.hid hgrow; clear hown hgrow hat))
         have HG6 : Hid ((w3.alloc (.cells #[.pointer (some ⟨PB, i * 20, none⟩)] 112)).grownBy w5 u11.ownBlock) := HG5
         clear HG5
         have HBF : Hid (Below w.heap.size w w5) := Lib.hid ((bStep HB3.out (bAl (o := .cells #[.pointer (some ⟨PB, i * 20, none⟩)] 112))).grown HG6.out (Nat.le_trans HB3.out.size (bAl (W := w3)).size) fun k hk => (World.ownsRow.lt HRW.out k hk).1)
         have HR5 : Hid (w5.ownsRow w.heap.size 112 1 v' (affTo a bt t0 t1 r (i + 1)).length ((affTo a bt t0 t1 r (i + 1)).map (pkPtr (.slice (some ⟨PB, 0, none⟩) g.qs.length cp)))) := by
          rw [HYS.out, List.length_append, List.map_append, List.map_singleton, pkPtr_at]
          exact HO5.out
         subst hQ
         go_wp2_with fail
         exact ⟨⟨i + 1, by omega, by push_cast; rfl, HR5, HBF⟩, by simp [intOf]; omega⟩
    ·have HNS := Lib.hid (affTo_no (bt := bt) (t0 := t0) (t1 := t1) (r := r) HP.out (affP_no fun m hm => HJ.out m (by rw [List.take_of_length_le (by omega)]; exact hm)))
     have HR5 : Hid (wr.ownsRow w.heap.size 112 1 u11 (affTo a bt t0 t1 r (i + 1)).length ((affTo a bt t0 t1 r (i + 1)).map (pkPtr (.slice (some ⟨PB, 0, none⟩) g.qs.length cp)))) := by rw [HNS.out]; exact own_step HQ.out HX.out
     obtain rfl : j = (lf p).ms.length := by omega
     clear hcj
     go_wp2_with fail
     subst hQ
     go_wp2_with fail
     exact ⟨⟨i + 1, by omega, by push_cast; rfl, HR5, HBW⟩, by simp [intOf]; omega⟩
  ·obtain rfl : i = g.qs.length := by omega
   have e9 : affTo a bt t0 t1 r g.qs.length = affA a bt t0 t1 r := by rw [HLN.out]; rfl
   rw [e9] at HQ
   clear hc e9
   go_wp2_with fail
   rw [Exit.noGoto_ret]
   exact bodyPost_ret (v := u11) (by simp only [results, Tryz.results61]; go_simp) rfl ⟨_, rfl, HQ.out, HW.out⟩
end Go.Proofs.YtmpilgkfbibhlaaGreatDoor
namespace Go.Proofs.YtmpilgkfbibhlaaGreatDoor
open Sx Go.RowKit Mr
theorem SRow.grown {v : Value} {l : List ByteArray} {W W5 : World} {k0 : Option Nat} (h : SRow v l W) (hg : W.grownBy W5 k0) (hn : l ≠ [] → ∀ k, k0 = some k → v.ownBlock ≠ some k) : SRow v l W5 := by
 obtain ⟨a, c, rfl, h2⟩ := h
 refine ⟨a, c, rfl, fun hl => ?_⟩
 obtain ⟨b, off, cs, fr, rfl, e2, e3⟩ := h2 hl
 exact ⟨b, off, cs, fr, rfl, (hg.block b (blk_lt e2) (fun c => hn hl b c.symm rfl)).trans e2, e3⟩
theorem SRow.lt {v : Value} {l : List ByteArray} {W : World} (h : SRow v l W) (hl : l ≠ []) {k : Nat} (hk : v.ownBlock = some k) : k < W.heap.size := by
 obtain ⟨a, c, rfl, h2⟩ := h
 obtain ⟨b, off, cs, fr, rfl, e2, e3⟩ := h2 hl
 have : b = k := by simpa [Value.ownBlock] using hk
 rw [← this]
 exact blk_lt e2
section
variable {B R n i u PB cp Bo m k : Nat} {a : RegA} {g g' : RegS} {vb vp vo : Value} {w w' W W5 : World} {p : ByteArray × List Ent} {q : PkV} {e : Evt} {xs : List Value}
theorem RegAt.fresh (h : RegAt B R g vb vp W) (hk : W.heap.size ≤ k) : NoS k g := fun q hq => by
 obtain ⟨h1, h2, -⟩ := h.ms q hq
 exact ⟨fun hl c => by have := h1.lt hl c; omega, fun hl c => by have := h2.lt hl c; omega⟩
theorem RegAt.strGrown (h : RegAt B R g vb vp W) (ho : W.ownsRow Bo 9 1 vo m xs) (hg : W.grownBy W5 vo.ownBlock) (hN : ∀ k, vo.ownBlock = some k → NoS k g) : RegAt B R g vb vp W5 := by
 have hK : ∀ (b : Nat) (cs : Array Value) (T : TypeId) (fr : Nat × Nat), W.heap[b]? = some (.cells cs T fr) → T ≠ 9 → W5.heap[b]? = some (.cells cs T fr) := fun b cs T fr e1 e2 => blk_kept e1 hg ho e2
 obtain ⟨h1, h2, ⟨ab, cb, h3, h4⟩, h5, h6, h7, h8, h9⟩ := h
 refine ⟨hK _ _ _ _ h1 (by decide), h2, ⟨ab, cb, h3, fun hn => ?_⟩, own_kept h5 hg ho (by decide), fun q hq => ?_, fun q hq => own_kept (h7 q hq) hg ho (by decide), h8, h9⟩
 ·obtain ⟨b, off, cs, fr, e1, e2, e3⟩ := h4 hn
  refine ⟨b, off, cs, fr, e1, hK _ _ _ _ e2 (by decide), fun k bk hk => ?_⟩
  obtain ⟨q1, vq, q2, a9, c9, q3, q4⟩ := e3 k bk hk
  refine ⟨q1, vq, q2, a9, c9, q3, fun hn2 => ?_⟩
  obtain ⟨b2, off2, cs2, fr2, d1, d2, d3⟩ := q4 hn2
  exact ⟨b2, off2, cs2, fr2, d1, hK _ _ _ _ d2 (by decide), d3⟩
 ·obtain ⟨q1, q2, q3⟩ := h6 q hq
  exact ⟨q1.grown hg (fun hl k hk => (hN k hk q hq).1 hl), q2.grown hg (fun hl k hk => (hN k hk q hq).2 hl), q3⟩
theorem own_keptT {E sz : Nat} {v : Value} (h : W.ownsRow Bo E sz v m xs) (hK : KeepT W W5) (n1 : E ≠ 121) (n2 : E ≠ 116) (n3 : E ≠ 31) : W5.ownsRow Bo E sz v m xs := by
 obtain ⟨h1, h2⟩ := h
 refine ⟨h1, ?_⟩
 rcases h2 with h2 | ⟨g, cap, cur, q1, q2, q3, q4⟩
 ·exact Or.inl h2
 ·exact Or.inr ⟨g, cap, cur, q1, q2, hK _ _ _ _ q3 n1 n2 n3, q4⟩
end
theorem scr_ms {name : ByteArray} : ∀ h : List Evt, LegH name h → (lifeOf name h).scr = true → (lifeOf name h).ms = [] := by
 refine snocInd (fun _ c => by cases c) fun h e ih hl hs => ?_
 have hc := hl.last
 rw [lifeOf_snoc] at hs ⊢
 change (if e.1 = 9 then true else (lifeOf name h).scr) = true at hs
 show modStep name (lifeOf name h).ms e = []
 unfold canR at hc
 cases hg : h.getLast? with
 | none =>
  rw [hg] at hc
  dsimp only at hc
  have h1 := of_decide_eq_true hc
  obtain rfl : h = [] := by simpa using hg
  rw [if_neg (by rw [h1]; decide)] at hs
  cases hs
 | some z =>
  rw [hg] at hc
  dsimp only at hc
  simp only [Bool.and_eq_true, Bool.not_eq_true', decide_eq_false_iff_not] at hc
  obtain ⟨⟨⟨c1, c2⟩, c3⟩, c4⟩ := hc
  by_cases h9 : e.1 = 9
  ·obtain ⟨k, t, ea, eb, n1, ot⟩ := e
   dsimp only at h9
   subst h9
   simp [ruleB] at c4
   rw [life_ms, c4]
   simp [modStep]
  ·rw [if_neg h9, (life_last h hl.init hg).2] at hs
   exact absurd (of_decide_eq_true hs) c3
end Go.Proofs.YtmpilgkfbibhlaaGreatDoor
namespace Go.Proofs.YtmpilgkfbibhlaaGreatDoor
open Sx Go.RowKit Mr
theorem recs_step {t : Int} {r : ByteArray} {n : Nat} {L : List Nat} {a : RegA} {j i : Nat} (h : L[j]? = some i) : recsA t r n (L.take (j + 1)) a = putA (recsA t r n (L.take j) a) n i (recE t r) := by
 unfold recsA
 rw [List.take_add_one, h, List.foldl_append]
 rfl
theorem affA_nodup (a : RegA) (bt : ByteArray) (t0 t1 : Int) (r : ByteArray) : (affA a bt t0 t1 r).Nodup := List.Pairwise.filter _ List.nodup_range
theorem affA_mem {a : RegA} {bt : ByteArray} {t0 t1 : Int} {r : ByteArray} {i : Nat} (h : i ∈ affA a bt t0 t1 r) : ∃ p, a.ps[i]? = some p ∧ affP a bt t0 t1 r p = true ∧ packA a i = p := by
 unfold affA at h
 obtain ⟨h1, h2⟩ := List.mem_filter.1 h
 have hi := List.mem_range.1 h1
 refine ⟨a.ps[i], List.getElem?_eq_getElem hi, ?_, ?_⟩
 ·rw [List.getElem?_eq_getElem hi] at h2; exact h2
 ·unfold packA; rw [List.getD_eq_getElem?_getD, List.getElem?_eq_getElem hi]; rfl
theorem nodup_take {L : List Nat} (h : L.Nodup) {j i : Nat} (hj : L[j]? = some i) : i ∉ L.take j := by
 intro c
 obtain ⟨k, hk⟩ := List.getElem?_of_mem c
 have hkj : k < j := by
  have := (List.getElem?_eq_some_iff.1 hk).1
  rw [List.length_take] at this
  omega
 rw [List.getElem?_take_of_lt hkj] at hk
 have hkl := (List.getElem?_eq_some_iff.1 hk).1
 have hjl := (List.getElem?_eq_some_iff.1 hj).1
 have e1 := (List.getElem?_eq_some_iff.1 hk).2
 have e2 := (List.getElem?_eq_some_iff.1 hj).2
 exact List.pairwise_iff_getElem.1 h k j hkl hjl hkj (e1.trans e2.symm)
structure RecI (a aj : RegA) (L : List Nat) (n j : Nat) : Prop where
 ok : OkB aj
 bks : aj.bks = a.bks
 used : aj.used.getD n 0 = a.used.getD n 0 + j
 ps : ∀ i, i ∉ L.take j → aj.ps[i]? = a.ps[i]?
structure RecC (a : RegA) (L : List Nat) (n : Nat) (t : Int) (r : ByteArray) : Prop where
 nd : L.Nodup
 nb : n < a.bks.length
 left : a.used.getD n 0 + L.length ≤ (a.bks.getD n (0, [])).2.length
 ok : okX (recE t r) = true
 p : ∀ i ∈ L, ∃ p, a.ps[i]? = some p ∧ canP p.1 (lf p) (recE t r) = true ∧ p.2.length < 500
theorem RecI.start {a : RegA} (ho : OkB a) (L : List Nat) (n : Nat) : RecI a a L n 0 := ⟨ho, rfl, rfl, fun _ _ => rfl⟩
theorem RecI.next {a aj : RegA} {L : List Nat} {n j i : Nat} {t : Int} {r : ByteArray} (h : RecI a aj L n j) (hc : RecC a L n t r) (hj : L[j]? = some i) :
  (∃ p, aj.ps[i]? = some p ∧ a.ps[i]? = some p) ∧ n < aj.bks.length ∧ aj.used.getD n 0 < (aj.bks.getD n (0, [])).2.length ∧ RecI a (putA aj n i (recE t r)) L n (j + 1) := by
 obtain ⟨p, hp, hcan, hl⟩ := hc.p i (List.mem_of_getElem? hj)
 have hp2 : aj.ps[i]? = some p := (h.ps i (nodup_take hc.nd hj)).trans hp
 have hjl := (List.getElem?_eq_some_iff.1 hj).1
 have hb : n < aj.bks.length := by rw [h.bks]; exact hc.nb
 have hu : aj.used.getD n 0 < (aj.bks.getD n (0, [])).2.length := by rw [h.bks, h.used]; have := hc.left; omega
 have hn8 : n < aj.used.length := by
  obtain ⟨-, h8, -⟩ := secR_ok h.ok.sec
  have := h.ok.u8
  omega
 refine ⟨⟨p, hp2, hp⟩, hb, hu, h.ok.put hp2 hc.ok hcan hl hu, putA_bks.1.trans h.bks, ?_, fun k hk => ?_⟩
 ·rw [putA_used hp2, getD_set, if_pos ⟨rfl, hn8⟩, h.used]
  omega
 ·rw [List.take_add_one, hj] at hk
  have hk2 : k ∉ L.take j ∧ k ≠ i := by
   constructor
   ·intro c; exact hk (List.mem_append_left _ c)
   ·rintro rfl; exact hk (List.mem_append_right _ (by simp))
  rw [putA_ne hk2.2]
  exact h.ps k hk2.1
theorem aff_can {a : RegA} (ho : OkA a) {bt r : ByteArray} {t t0 t1 : Int} {i : Nat} {p : ByteArray × List Ent} (hp : a.ps[i]? = some p) (ha : affP a bt t0 t1 r p = true) (ht : ¬ t < (lf p).at_) : canP p.1 (lf p) (recE t r) = true := by
 have hpm := List.mem_of_getElem? hp
 obtain ⟨q1, q2, q3, q4⟩ := ho.p p hpm
 unfold affP at ha
 rw [Bool.and_eq_true] at ha
 obtain ⟨h1, h2⟩ := ha
 obtain ⟨m, hm, -⟩ := List.any_eq_true.1 h2
 have hn : ¬ (lf p).n = 0 := by
  show ¬ (lifeOf p.1 (evsOf p.2)).n = 0
  rw [life_n, evs_len]
  exact fun c => ho.ne p hpm (List.length_eq_zero_iff.1 c)
 have hs : ¬ (lf p).scr = true := fun c => by
  have e : (lf p).ms = [] := scr_ms _ q2 c
  rw [e] at hm
  cases hm
 unfold canP
 rw [if_neg hn, if_neg (show ¬ (recE t r).2.1 < (lf p).at_ from ht), if_neg hs]
 show ruleB p.1 (lf p).ms (lf p).os (7, t, 0, 0, r, emp) = true
 simp [ruleB]
 simpa using h1
theorem rec_ok {t : Int} {r : ByteArray} (h1 : nameB r = true) (h2 : timeB t = true) : okX (recE t r) = true := by
 have h4 := of_decide_eq_true h2
 have s1 := (nameB_size h1).2
 show okE 7 t 0 0 r emp = true
 unfold okE chkE chkB
 rw [h1]
 have e0 : emp.toList = [] := by rw [Lib.toList_data]; rfl
 have e1 : emp.size = 0 := rfl
 rw [e0, e1]
 simp [h4.1, h4.2]
 omega
structure RcS (B R : Nat) (vb : Value) (a : RegA) (g : RegS) (vp : Value) (n : Nat) (L : List Nat) (t : Int) (r : ByteArray) (bL E : Nat) (cL : Array Value) (w0 : World) (j : Nat) (vo : Value) (W : World) : Prop where
 v : ∃ gj, RegV B R vb (recsA t r n (L.take j) a) gj vp W ∧ Moved R g vp gj vp w0 W ∧ ∀ k, vo.ownBlock = some k → NoS k gj
 out : W.ownsRow w0.heap.size 9 1 vo j ((L.take j).map fun i => Value.string (nameA a i))
 l : L ≠ [] → W.heap[bL]? = some (.cells cL 112 (0, 0))
 e : W.heap[E]? = some (.cells #[.int .i64 t] 2 (0, 0))
 i : RecI a (recsA t r n (L.take j) a) L n j
structure RcM (B R : Nat) (vb : Value) (a : RegA) (g : RegS) (vp : Value) (n : Nat) (L : List Nat) (t : Int) (r : ByteArray) (bL E : Nat) (cL : Array Value) (w0 : World) (j : Nat) (vo : Value) (W : World) : Prop where
 v : ∃ gj, RegV B R vb (recsA t r n (L.take (j + 1)) a) gj vp W ∧ Moved R g vp gj vp w0 W ∧ ∀ k, vo.ownBlock = some k → NoS k gj
 out : W.ownsRow w0.heap.size 9 1 vo j ((L.take j).map fun i => Value.string (nameA a i))
 l : L ≠ [] → W.heap[bL]? = some (.cells cL 112 (0, 0))
 e : W.heap[E]? = some (.cells #[.int .i64 t] 2 (0, 0))
 i : RecI a (recsA t r n (L.take (j + 1)) a) L n (j + 1)
section
variable {B R n bL E j i : Nat} {vb vp vo v' : Value} {a : RegA} {g : RegS} {L : List Nat} {t : Int} {r : ByteArray} {cL : Array Value} {w0 W W5 : World}
theorem RcS.enter (h : RcS B R vb a g vp n L t r bL E cL w0 j vo W) (hc : RecC a L n t r) (hj : L[j]? = some i) :
  ∃ PB cp m, vp = .slice (some ⟨PB, 0, none⟩) m cp ∧ Calls Tryz.prog 65 #[.pointer (some ⟨R, 0, none⟩), .int .i64 (n : Int), .pointer (some ⟨PB, i * 20, none⟩), evX (recE t r)] W fun en w' => en = .returned (.tuple #[]) ∧ RcM B R vb a g vp n L t r bL E cL w0 j vo w' ∧
   w'.cell? ⟨PB, i * 20, none⟩ = some (.string (nameA a i)) ∧ PB < w'.heap.size := by
 obtain ⟨gj, hv, hm, hn⟩ := h.v
 obtain ⟨⟨p, hp, hp0⟩, hb, hu, hnx⟩ := h.i.next hc hj
 obtain ⟨p9, hp9, hcan, -⟩ := hc.p i (List.mem_of_getElem? hj)
 rw [hp0] at hp9
 obtain rfl := Option.some.inj hp9
 obtain ⟨PB, cp, e1, h1⟩ := enter_viewE hv h.i.ok hp hb hu hc.ok hcan
 refine ⟨PB, cp, _, e1, h1.mono fun en w' r9 => ⟨r9.1, ?_⟩⟩
 obtain ⟨g', q1, q2⟩ := r9.2
 have q3 := q2.ns
 have hK := q2.keepT hv.ra
 rw [← recs_step hj] at q1
 rw [← recs_step hj] at hnx
 refine ⟨⟨⟨g', q1, hm.trans q2, fun k hk => q3 k ?_ (hn k hk)⟩, own_keptT h.out hK (by decide) (by decide) (by decide), fun hl => hK _ _ _ _ (h.l hl) (by decide) (by decide) (by decide), hK _ _ _ _ h.e (by decide) (by decide) (by decide), hnx⟩, ?_⟩
 ·exact (World.ownsRow.lt h.out k hk).2
 ·have hp9 : (recsA t r n (L.take (j + 1)) a).ps[i]? = some (putP (recsA t r n (L.take j) a) n (recE t r) p) := by rw [recs_step hj]; exact putA_eq hp
  obtain ⟨q, hq, f1, -⟩ := q1.get hp9
  obtain ⟨m9, c9⟩ : ∃ c, vp = .slice (some ⟨PB, 0, none⟩) g'.qs.length c := by
   obtain ⟨PB2, cp2, cur, e2, -⟩ := q1.ra.packs (by rintro c; rw [c] at hq; cases hq)
   rw [e1] at e2
   have e8 : PB = PB2 := by have h9 := congrArg Value.ownBlock e2; simpa [Value.ownBlock] using h9
   subst e8
   exact ⟨cp2, e1.trans e2⟩
  have hl := (q1.ra.life c9 hq).1
  have hn0 := hl.open1.1
  rw [f1] at hn0
  have hna : nameA a i = p.1 := by unfold nameA; rw [List.getD_eq_getElem?_getD, hp0]; rfl
  rw [hna]
  exact ⟨hn0, hl.lt⟩
theorem RcM.put {o : Obj} (h : RcM B R vb a g vp n L t r bL E cL w0 j vo W) (hj : L[j]? = some i) (hg : (W.alloc o).grownBy W5 vo.ownBlock) (ho : W5.ownsRow w0.heap.size 9 1 v' (j + 1) ((L.take j).map (fun i => Value.string (nameA a i)) ++ [.string (nameA a i)])) (hat : v'.ownBlock = vo.ownBlock ∨ v'.ownBlock = some (W.alloc o).heap.size) :
  RcS B R vb a g vp n L t r bL E cL w0 (j + 1) v' W5 := by
 obtain ⟨gj, hv, hm, hn⟩ := h.v
 have hout := own_step h.out (bAl (o := o))
 have hv2 := hv.step (bAl (W := W) (o := o))
 refine ⟨⟨gj, ⟨hv2.ra.strGrown hout hg hn, hv2.abs, hv2.lf⟩, ⟨(hm.step (bAl (o := o))).kp.grown hg (fun k hk hlt => ?_), hm.own, hm.ns⟩, fun k hk => ?_⟩, ?_, fun hl => blk_kept (blk_step (h.l hl) bAl) hg hout (by decide), blk_kept (blk_step h.e bAl) hg hout (by decide), h.i⟩
 ·have := (World.ownsRow.lt h.out k hk).1
  omega
 ·rcases hat with hat | hat
  ·exact hn k (hat ▸ hk)
  ·rw [hat] at hk
   obtain rfl := Option.some.inj hk
   exact hv2.ra.fresh (Nat.le_refl _)
 ·rw [List.take_add_one, hj, List.map_append]
  exact ho
end
end Go.Proofs.YtmpilgkfbibhlaaGreatDoor
