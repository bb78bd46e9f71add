/-
 PassportPads: the walk.
-/
import Derived.Test.YtmpilgkfbibhlaaGreatDoorG0Y
import Derived.Test.YtmpilgkfbibhlaaGreatDoorG37Y
import Derived.Test.YtmpilgkfbibhlaaGreatDoorG34Y
import Derived.Test.YtmpilgkfbibhlaaGreatDoorG25Y
import Derived.Test.YtmpilgkfbibhlaaGreatDoorG22Y
import Derived.Test.YtmpilgkfbibhlaaGreatDoorG17Y
import Derived.Great.Walk
import Derived.Deep.CutBlock
import Derived.Deep.CutRange
set_option linter.unusedSimpArgs false
set_option linter.unusedVariables false
namespace Go.Proofs.YtmpilgkfbibhlaaGreatDoor
open Sx Go.RowKit Mr
set_option maxHeartbeats 8000000 in
set_option maxRecDepth 20000 in
theorem PassportPads_walk (s : Nat) (hs : s < 256) {al : Option Addr} {cl : Nat} {l : List Sm} {w : World} (hG : Glob0 w) (hL : SmsAt al l w) (hO : ∀ x ∈ l, SmOk x) : Calls Tryz.prog 4 #[.int .u8 (s : Int), .slice al l.length cl] w fun en w' => en = .returned (.bool true) ∧ Below w.heap.size w w' := by
 have HG := Lib.hid hG
 have HL := Lib.hid hL
 have HO := Lib.hid hO
 clear hG hL hO
 go_enter Tryz.func4, Tryz.ntmps4
 go_upto_block 0 with (go_at_call 14; refine (begin_any s hs _).mono ?_; rintro e w1 ⟨Wd, R, vb, vk, rfl, hW⟩; have HW := Lib.hid hW; clear hW)
 go_cut [7] from 21 to 36 (fun s7 W => ∃ i : Nat, i ≤ l.length ∧ i ≤ 60 ∧ s7 = .int .i64 i ∧ Hid (WdE w Wd R vb vk (booksW s 3) (wlN s (l.take i)) W))
 case first =>
  go_wp2_with fail
  go_loopw [7] (fun ix wr => ∃ i : Nat, i ≤ l.length ∧ i ≤ 60 ∧ ix = .int .i64 i ∧ Hid (WdE w Wd R vb vk (booksW s 3) (wlN s (l.take i)) wr)) (fun ix _ => 60 - (intOf ix).toNat)
  case atStart => exact ⟨0, Nat.zero_le _, Nat.zero_le _, rfl, HW⟩
  case round =>
   obtain ⟨i, hi, hj, rfl, HS⟩ := hrel
   by_cases hc : i < l.length
   ·by_cases hd : i < 60
    ·have c1 : (i : Int) < l.length := by omega
     have c2 : (i : Int) < 60 := by omega
     have c0 : (0 : Int) ≤ i := by omega
     obtain ⟨x, hk⟩ : ∃ x, l[i]? = some x := ⟨l[i], List.getElem?_eq_getElem hc⟩
     have hOW := wlN_ok hs (l.take i)
     rw [List.length_take, Nat.min_eq_left hi] at hOW
     obtain ⟨z1, z2, z3⟩ := hOW.sizes (by omega) x
     have CD := Lib.hid (do_head HS.out hOW.ok HG.out x (HO.out x (List.mem_of_getElem? hk)) z1 z2 ⟨by rw [hOW.bl]; exact z2.1, by rw [hOW.tl]; exact z2.1⟩ z3)
     have HTK : Hid (wlN s (l.take (i + 1)) = doW (wlN s (l.take i)) x) := by show wlN s (l.take (i + 1)) = _; rw [take_snoc hk, wlN_snoc]
     obtain ⟨b, off, rfl, hbb, hbc⟩ := HL.out (by rintro e; rw [e] at hc; simp at hc)
     have HBW : Hid (Below w.heap.size w wr) := by obtain ⟨_, _, _, _, _, _, q⟩ := HS.out; exact q.bel
     have bl := Nat.lt_of_lt_of_le hbb HBW.out.size
     have x0 : wr.cell? ⟨b, off + i * 7, none⟩ = some (.int .u8 (x.do_ : Int)) := cell_step (hbc i x hk 0 _ rfl) HBW.out
     have x1 : wr.cell? ⟨b, off + i * 7 + 1, none⟩ = some (.int .u8 (x.by_ : Int)) := cell_step (hbc i x hk 1 _ rfl) HBW.out
     have x2 : wr.cell? ⟨b, off + i * 7 + 2, none⟩ = some (.int .u8 (x.p : Int)) := cell_step (hbc i x hk 2 _ rfl) HBW.out
     have x3 : wr.cell? ⟨b, off + i * 7 + 3, none⟩ = some (.int .u8 (x.m : Int)) := cell_step (hbc i x hk 3 _ rfl) HBW.out
     have x4 : wr.cell? ⟨b, off + i * 7 + 4, none⟩ = some (.int .u8 (x.t : Int)) := cell_step (hbc i x hk 4 _ rfl) HBW.out
     have x5 : wr.cell? ⟨b, off + i * 7 + 5, none⟩ = some (.int .u16 (x.n : Int)) := cell_step (hbc i x hk 5 _ rfl) HBW.out
     have x6 : wr.cell? ⟨b, off + i * 7 + 6, none⟩ = some (.int .u8 (x.later : Int)) := cell_step (hbc i x hk 6 _ rfl) HBW.out
     clear hk hOW z1 z2 z3 hbb hbc hd hc
     go_wp2_with (go_at_call 15; refine CD.out.mono ?_; rintro e w9 ⟨rfl, hz⟩; have HZ := Lib.hid hz; clear hz)
     exact ⟨⟨i + 1, by omega, by omega, by push_cast; rfl, by rw [HTK.out]; exact HZ⟩, by simp [intOf]; omega⟩
    ·have c1 : (i : Int) < l.length := by omega
     have c2 : ¬ (i : Int) < 60 := by omega
     clear hd hc
     go_wp2_with fail
     go_meet
     exact ⟨i, hi, hj, rfl, HS⟩
   ·have c1 : ¬ (i : Int) < l.length := by omega
    clear hc
    go_wp2_with fail
    go_meet
    exact ⟨i, hi, hj, rfl, HS⟩
 case rest =>
  obtain ⟨i, hi, hj, rfl, HS⟩ := hcut
  have hlt : (l.take i).length = i := by rw [List.length_take, Nat.min_eq_left hi]
  have hOW := wlN_ok hs (l.take i)
  rw [hlt] at hOW
  have hV := (wlN_ver hs (l.take i)).pd
  have hB := (wlN_bks hs (l.take i)).1
  obtain ⟨g, vp, vpk, vmd, vbt, vmk, hWd⟩ := HS.out
  clear HS
  generalize wlN s (l.take i) = S at *
  have hus : ∀ n, n < 3 → S.a.used.getD n 0 ≤ 400 := fun n hn => by
   have h1 := hOW.ok.us n
   rw [hB] at h1
   have h2 : ((booksW s 3).getD n (0, [])).2.length = 400 := by
    rw [List.getD_eq_getElem?_getD]
    unfold booksW
    rw [List.getElem?_map, List.getElem?_range hn]
    exact padsW_len s n 400
   omega
  obtain ⟨ap, cp, evp⟩ := row_slice hWd.pk
  subst evp
  have hnp := hOW.np
  have hlp : S.a.ps.length = S.packs.length := by rw [← hOW.pk, List.length_map]
  have H0 := Lib.hid hWd
  have HPD := Lib.hid hV
  have HOW := Lib.hid hOW
  have HUS := Lib.hid hus
  have HLP := Lib.hid hlp
  have HBK := Lib.hid hB
  clear hWd hV hOW hus hlp hB hlt hi
  have HU0 : Hid (UsA wc.heap.size [] (wc.alloc (.cells Tryz.zeroCells45 45))) := UsA.start wc
  have HB0 : Hid (Below wc.heap.size wc (wc.alloc (.cells Tryz.zeroCells45 45))) := bAl
  go_upto_region 9 with fail
  generalize wc.alloc (.cells Tryz.zeroCells45 45) = wa at *
  go_wp2_with fail
  go_loopw [9, 10] (fun cn kx wr => ∃ k n : Nat, k ≤ S.packs.length ∧ kx = .int .i64 k ∧ cn = .int .i64 n ∧ Hid (n = (preE S.a k).length) ∧ Hid (UsA wc.heap.size (preE S.a k) wr) ∧ Hid (Below wc.heap.size wc wr)) (fun _ kx _ => S.packs.length - (intOf kx).toNat)
  case atStart => exact ⟨0, 0, Nat.zero_le _, rfl, rfl, rfl, HU0, HB0⟩
  case round =>
   obtain ⟨k, n, hk, rfl, rfl, HN, HU, HB⟩ := hrel
   have HWr := Lib.hid (H0.out.step HB.out)
   have c0 : wr.cell? ⟨Wd, 0, none⟩ = some (.pointer (some ⟨R, 0, none⟩)) := blk_cell (o := 0) HWr.out.blk rfl
   have c3 : wr.cell? ⟨Wd, 3, none⟩ = some (.slice ap S.packs.length cp) := blk_cell (o := 3) HWr.out.blk rfl
   have cl := blk_lt HWr.out.blk
   by_cases hc : k < S.packs.length
   ·have c1 : (k : Int) < S.packs.length := by omega
    have k0 : (0 : Int) ≤ k := by omega
    obtain ⟨q, hq⟩ : ∃ q, S.packs[k]? = some q := ⟨S.packs[k], List.getElem?_eq_getElem hc⟩
    obtain ⟨es, hp, hf⟩ := HOW.out.at hq
    have CE : Hid (∀ W, Below wr.heap.size wr W → Calls Tryz.prog 16 #[.pointer (some ⟨R, 0, none⟩), .string q] W fun en w' => ∃ v', en = .returned (.tuple #[v', .int .i64 0]) ∧ w'.ownsRow W.heap.size 31 10 v' es.length (flatY es) ∧ Below W.heap.size W w') := fun W hW => Entries_yes (HWr.out.step hW).v HOW.out.ok q (q, es) (by rw [hf]; exact hp)
    obtain ⟨pb, epb, hpb, hpc⟩ := row_cells (b := 0) (c := cp) HWr.out.pk (by omega)
    have gk : wr.cell? ⟨pb, k, none⟩ = some (.string q) := hpc k _ (by unfold strC; rw [List.getElem?_map, hq]; rfl)
    obtain rfl := epb
    have HF := Lib.hid (And.intro c0 (And.intro c3 (And.intro cl (And.intro gk hpb))))
    have HPE := Lib.hid hp
    have HPS : Hid (preE S.a (k + 1) = preE S.a k ++ es) := preE_snoc hp
    have HRP := Lib.hid (preE_part hp)
    clear hpc hq hp hf hc
    go_upto_region 13 with fail
    clear c0 c3 cl gk hpb
    refine region_all 17 6 151 [(11, 58), (12, 46), (13, 59), (15, 11)] [(none, []), (none, []), (none, []), (none, []), (none, []), (none, []), (none, []), (none, []), (none, []), (none, []), (none, []), (some 0, []), (some 1, [0]), (some 2, [1]), (none, [1]), (some 3, [2]), (none, [])] [(47, (.pointer (some ⟨Wd, 0, none⟩))), (48, (.pointer (some ⟨Wd, 0, none⟩))), (49, (.pointer (some ⟨Wd, 0, none⟩))), (50, (.pointer (some ⟨R, 0, none⟩))), (51, (.pointer (some ⟨Wd, 0, none⟩))), (52, (.pointer (some ⟨Wd, 0, none⟩))), (53, (.pointer (some ⟨Wd, 3, none⟩))), (54, (.slice (some ⟨pb, 0, none⟩) S.packs.length cp)), (55, (.int .i64 (k : Int))), (56, (.pointer (some ⟨pb, k, none⟩))), (57, (.string q)), (60, (.int .i64 0)), (12, (.int .i64 0))] (fun bsE vsE W => CaV (fun W => Below wr.heap.size wr W) (fun v' W => W.ownsRow wr.heap.size 31 10 v' es.length (flatY es)) tup0 (bsE.getD 0 false) (bsE.getD 1 false) (bsE.getD 2 false) (bsE.getD 3 false) ((vsE.getD 0 undef)) ((vsE.getD 1 undef)) ((vsE.getD 2 undef)) ((vsE.getD 3 undef)) W) (by kernel_rfl) (by kernel_rfl) rfl rfl (by kernel_rfl) (by rfl) ?h0 ?each ?done
    case h0 =>
     intro vsE hlv
     obtain ⟨v0, v1, v2, v3, rfl⟩ := ll4 hlv
     exact CaV.start (Below.refl _ _).drew
    case each =>
     simp only [AllE]
     refine ⟨⟨47, (.pointer (some ⟨Wd, 0, none⟩)), rfl, by kernel_rfl, ?_⟩, ⟨48, (.pointer (some ⟨Wd, 0, none⟩)), rfl, by kernel_rfl, ?_⟩, ⟨49, (.pointer (some ⟨Wd, 0, none⟩)), rfl, by kernel_rfl, ?_⟩, ⟨50, (.pointer (some ⟨R, 0, none⟩)), rfl, by kernel_rfl, ?_⟩, ⟨51, (.pointer (some ⟨Wd, 0, none⟩)), rfl, by kernel_rfl, ?_⟩, ⟨52, (.pointer (some ⟨Wd, 0, none⟩)), rfl, by kernel_rfl, ?_⟩, ⟨53, (.pointer (some ⟨Wd, 3, none⟩)), rfl, by kernel_rfl, ?_⟩, ⟨54, (.slice (some ⟨pb, 0, none⟩) S.packs.length cp), rfl, by kernel_rfl, ?_⟩, ⟨55, (.int .i64 (k : Int)), rfl, by kernel_rfl, ?_⟩, ⟨56, (.pointer (some ⟨pb, k, none⟩)), rfl, by kernel_rfl, ?_⟩, ⟨57, (.string q), rfl, by kernel_rfl, ?_⟩, Or.inl ⟨58, rfl, ?q2_11⟩, Or.inl ⟨46, rfl, ?q2_12⟩, Or.inl ⟨59, rfl, ?q2_13⟩, ⟨60, (.int .i64 0), rfl, by kernel_rfl, ?q2_14⟩, Or.inl ⟨11, rfl, ?q2_15⟩, ⟨12, (.int .i64 0), rfl, by kernel_rfl, ?_⟩, trivial⟩
     case q2_11 =>
      intro bsE vsE W hlb hlv hnd hbk h
      obtain ⟨b0, b1, b2, b3, rfl⟩ := ll4 hlb
      obtain ⟨v0, v1, v2, v3, rfl⟩ := ll4 hlv
      obtain rfl : b0 = false := hbk
      replace h : CaV (fun W => Below wr.heap.size wr W) (fun v' W => W.ownsRow wr.heap.size 31 10 v' es.length (flatY es)) tup0 false b1 b2 b3 (v0) (v1) (v2) (v3) W := h
      clear hnd
      have HST := Lib.hid h
      skip
      intro K Q hK
      simp only [putE, updAll, Act.put, sl1, sl2, sl3, sl4] at hK ⊢
      go_wp2_with (go_at_call 16; refine (CE.out _ h.p).mono ?_; rintro en w9 ⟨v', rfl, ho9, hb9⟩)
      all_goals (have hm := h.mk0 (bStep h.p hb9) (own_low ho9 h.p.size))
      all_goals (first | exact hK _ _ hm | exact hm)
     case q2_12 =>
      intro bsE vsE W hlb hlv hnd hbk h
      obtain ⟨b0, b1, b2, b3, rfl⟩ := ll4 hlb
      obtain ⟨v0, v1, v2, v3, rfl⟩ := ll4 hlv
      obtain rfl : b0 = true := hnd 0 (by simp)
      obtain rfl : b1 = false := hbk
      replace h : CaV (fun W => Below wr.heap.size wr W) (fun v' W => W.ownsRow wr.heap.size 31 10 v' es.length (flatY es)) tup0 true false b2 b3 (v0) (v1) (v2) (v3) W := h
      clear hnd
      have HST := Lib.hid h
      obtain ⟨vt, rfl⟩ := h.val0; have hm := h.mk1
      intro K Q hK
      simp only [putE, updAll, Act.put, sl1, sl2, sl3, sl4] at hK ⊢
      go_wp2_with fail
      all_goals (first | exact hK _ _ hm | exact hm)
     case q2_13 =>
      intro bsE vsE W hlb hlv hnd hbk h
      obtain ⟨b0, b1, b2, b3, rfl⟩ := ll4 hlb
      obtain ⟨v0, v1, v2, v3, rfl⟩ := ll4 hlv
      obtain rfl : b1 = true := hnd 1 (by simp)
      obtain rfl : b2 = false := hbk
      replace h : CaV (fun W => Below wr.heap.size wr W) (fun v' W => W.ownsRow wr.heap.size 31 10 v' es.length (flatY es)) tup0 b0 true false b3 (v0) (v1) (v2) (v3) W := h
      clear hnd
      have HST := Lib.hid h
      obtain ⟨vt, rfl⟩ := h.val1; have hm := h.mk2 tup0_inj; unfold tup0
      intro K Q hK
      simp only [putE, updAll, Act.put, sl1, sl2, sl3, sl4] at hK ⊢
      go_wp2_with fail
      all_goals (first | exact hK _ _ hm | exact hm)
     case q2_14 =>
      intro bsE vsE W hlb hlv hnd h
      obtain ⟨b0, b1, b2, b3, rfl⟩ := ll4 hlb
      obtain ⟨v0, v1, v2, v3, rfl⟩ := ll4 hlv
      obtain rfl : b1 = true := hnd 1 (by simp)
      replace h : CaV (fun W => Below wr.heap.size wr W) (fun v' W => W.ownsRow wr.heap.size 31 10 v' es.length (flatY es)) tup0 b0 true b2 b3 (v0) (v1) (v2) (v3) W := h
      clear hnd
      have HST := Lib.hid h
      obtain ⟨vt, rfl⟩ := h.val1; unfold tup0
      intro K Q hK
      simp only [putE, updAll, Act.put, sl1, sl2, sl3, sl4] at hK ⊢
      go_wp2_with (fail)
      all_goals (first | exact hK _ h | exact h)
     case q2_15 =>
      intro bsE vsE W hlb hlv hnd hbk h
      obtain ⟨b0, b1, b2, b3, rfl⟩ := ll4 hlb
      obtain ⟨v0, v1, v2, v3, rfl⟩ := ll4 hlv
      obtain rfl : b2 = true := hnd 2 (by simp)
      obtain rfl : b3 = false := hbk
      replace h : CaV (fun W => Below wr.heap.size wr W) (fun v' W => W.ownsRow wr.heap.size 31 10 v' es.length (flatY es)) tup0 b0 b1 true false (v0) (v1) (v2) (v3) W := h
      clear hnd
      have HST := Lib.hid h
      have hm := h.mk3
      intro K Q hK
      simp only [putE, updAll, Act.put, sl1, sl2, sl3, sl4] at hK ⊢
      go_wp2_with fail
      all_goals (first | exact hK _ _ hm | exact hm)
     all_goals
      intro bsE vsE W hlb hlv hnd h
      obtain ⟨b0, b1, b2, b3, rfl⟩ := ll4 hlb
      obtain ⟨v0, v1, v2, v3, rfl⟩ := ll4 hlv
      replace h : CaV (fun W => Below wr.heap.size wr W) (fun v' W => W.ownsRow wr.heap.size 31 10 v' es.length (flatY es)) tup0 b0 b1 b2 b3 (v0) (v1) (v2) (v3) W := h
      clear hnd
      have HST := Lib.hid h
      obtain ⟨f0, f3, fl, fk, fb⟩ := HF.out; have d0 := cell_step f0 h.p; have d3 := cell_step f3 h.p; have dl := Nat.lt_of_lt_of_le fl h.p.size; have dk := cell_step fk h.p; have db := Nat.lt_of_lt_of_le fb h.p.size; clear f0 f3 fl fk fb
      intro K Q hK
      simp only [putE, updAll, Act.put, sl1, sl2, sl3, sl4] at hK ⊢
      go_wp2_with (fail)
      all_goals (first | exact hK _ h | exact h)
    case done =>
     intro vsE W hlv h
     obtain ⟨v0, v1, v2, v3, rfl⟩ := ll4 hlv
     replace h : CaV (fun W => Below wr.heap.size wr W) (fun v' W => W.ownsRow wr.heap.size 31 10 v' es.length (flatY es)) tup0 true true true true (v0) (v1) (v2) (v3) W := h
     have HST := Lib.hid h
     obtain ⟨hb9, rfl, rfl, rfl, ho9⟩ := h.fin
     obtain ⟨av, cv, ev⟩ := row_slice ho9
     subst ev
     clear h HST
     simp only [putE, updAll, Act.put, sl1, sl2, sl3, sl4]
     have HUW : Hid (UsA wc.heap.size (preE S.a k) W) := HU.out.step hb9
     have HBW : Hid (Below wc.heap.size wc W) := bStep HB.out hb9
     have HRW := Lib.hid ho9
     generalize wr.heap.size = B9 at HRW
     clear hb9 ho9 HU HB HWr CE HF
     go_wp2_with fail
     go_loopw [9, 13] (fun cn jx wv => ∃ j m : Nat, j ≤ es.length ∧ jx = .int .i64 j ∧ cn = .int .i64 m ∧ Hid (m = (preE S.a k ++ es.take j).length) ∧ Hid (UsA wc.heap.size (preE S.a k ++ es.take j) wv) ∧ Hid (Below wc.heap.size wc wv) ∧ Hid (wv.ownsRow B9 31 10 (.slice av es.length cv) es.length (flatY es))) (fun _ jx _ => es.length - (intOf jx).toNat)
     case atStart => exact ⟨0, n, Nat.zero_le _, rfl, rfl, by show n = _; rw [List.take_zero, List.append_nil]; exact HN.out, by rw [List.take_zero, List.append_nil]; exact HUW, HBW, HRW⟩
     case round =>
      obtain ⟨j, m, hj9, rfl, rfl, HM, HU2, HB2, HR2⟩ := hrel
      clear HUW HBW HRW
      by_cases hd : j < es.length
      ·have d1 : (j : Int) < es.length := by omega
       have d0 : (0 : Int) ≤ j := by omega
       obtain ⟨y, hy⟩ : ∃ y, es[j]? = some y := ⟨es[j], List.getElem?_eq_getElem hd⟩
       obtain ⟨r9, hr9⟩ := HRP.out
       obtain ⟨b, p, e1, e2, e3, e4, e5, e6⟩ := HPD.out.fresh HUS.out hr9 hy
       have HTK : Hid (preE S.a k ++ es.take (j + 1) = preE S.a k ++ es.take j ++ [y]) := by show _ = _; rw [take_snoc hy, List.append_assoc]
       have hjb : (j : Int) + 1 ≤ 1200 := by rw [List.length_append] at e6; omega
       have hm9 : m ≤ 1200 := by have h1 := HM.out; rw [List.length_append, List.length_take] at h1; rw [List.length_append] at e6; omega
       obtain ⟨ev, by_, pad, hdd, tg⟩ := y
       obtain rfl : by_ = (b : Int) := e1
       obtain rfl : pad = (p : Int) := e2
       obtain ⟨eb, eeb, heb, hec⟩ := row_cells (b := 0) (c := cv) HR2.out (by omega)
       obtain rfl := eeb
       obtain ⟨gu, fu, lX⟩ := HU2.out.cell e3 e4
       rw [e5] at gu
       have g6 := (ent_cell (t := 6) HR2.out hy rfl).1
       have g7 := (ent_cell (t := 7) HR2.out hy rfl).1
       have HY := Lib.hid hy
       have n1 : ¬ (b : Int) < 0 := by omega
       have n2 : ¬ (b : Int) ≥ 3 := by omega
       have n3 : ¬ (p : Int) < 0 := by omega
       have n4 : ¬ (p : Int) ≥ 400 := by omega
       have n5 : (0 : Int) ≤ b := by omega
       have n6 : (b : Int) < 3 := by omega
       have n7 : (0 : Int) ≤ p := by omega
       have n8 : (p : Int) < 400 := by omega
       clear hec hy e5 e6 hr9 HRP HPE
       go_upto_region 19 with fail
       have f6 := fun s : WStep wr => cell_step g6 s.2
       have f7 := fun s : WStep wr => cell_step g7 s.2
       have fU := fun s : WStep wr => cell_step gu s.2
       have fl := fun s : WStep wr => Nat.lt_of_lt_of_le heb s.2.size
       have fX := fun s : WStep wr => Nat.lt_of_lt_of_le lX s.2.size
       refine wp_region_lock (by kernel_rfl) (by kernel_rfl) ?_
       repeat (first | (refine WQ.skip rfl rfl rfl rfl ?_; simp only [Act.put, sl1, sl2, sl3, sl4]) | ((first | (apply WQ.val; (exact rfl)) | (apply WQ.valg; (exact rfl); (exact rfl); (exact rfl))); (intro w9 hw9; obtain ⟨s9, rfl⟩ := hw9; simp [go_sem, f6, f7, fU, fl, fX, d0, d1, n1, n2, n3, n4, n5, n6, n7, n8]; first | done | exact rfl); simp only [Act.put, sl1, sl2, sl3, sl4]))
       refine WQ.fin fun W4 hbn => ?_
       clear f6 f7 fU fl fX g6 g7 gu fu
       go_upto_region 21 with fail
       refine region_all 13 6 151 [(12, 151)] [(none, []), (none, []), (none, []), (none, []), (none, []), (none, []), (none, []), (none, []), (none, []), (none, []), (none, []), (none, []), (some 0, [])] [(114, (.slice (some ⟨eb, 0, none⟩) es.length cv)), (115, (.int .i64 (j : Int))), (116, (.pointer (some ⟨eb, j * 10, none⟩))), (117, (.pointer (some ⟨eb, j * 10 + 6, none⟩))), (118, (.int .i64 (b : Int))), (119, (.slice (some ⟨eb, 0, none⟩) es.length cv)), (120, (.int .i64 (j : Int))), (121, (.pointer (some ⟨eb, j * 10, none⟩))), (122, (.pointer (some ⟨eb, j * 10 + 7, none⟩))), (123, (.int .i64 (p : Int))), (124, (.pointer (some ⟨wc.heap.size, b * 400, none⟩))), (125, (.pointer (some ⟨wc.heap.size, b * 400 + p, none⟩)))] (fun bsE vsE W => StS (fun W => W.ownsRow B9 31 10 (.slice (some ⟨eb, 0, none⟩) es.length cv) es.length (flatY es) ∧ wc.heap.size < W.heap.size) (fun W => UsA wc.heap.size (preE S.a k ++ es.take j) W ∧ Below wc.heap.size wc W) (fun W => UsA wc.heap.size (preE S.a k ++ es.take (j + 1)) W ∧ Below wc.heap.size wc W) (bsE.getD 0 false) W) (by kernel_rfl) (by kernel_rfl) rfl rfl (by kernel_rfl) (by rfl) ?h0 ?each ?done
       case h0 =>
        intro vsE hlv
        obtain ⟨v0, rfl⟩ := ll1 hlv
        exact ⟨⟨(own_step HR2.out hbn.drew), Nat.lt_of_lt_of_le lX hbn.drew.size⟩, (fun _ => ⟨HU2.out.step hbn.drew, bStep HB2.out hbn.drew⟩), (fun e => by cases e)⟩
       case each =>
        simp only [AllE]
        refine ⟨⟨114, (.slice (some ⟨eb, 0, none⟩) es.length cv), rfl, by kernel_rfl, ?_⟩, ⟨115, (.int .i64 (j : Int)), rfl, by kernel_rfl, ?_⟩, ⟨116, (.pointer (some ⟨eb, j * 10, none⟩)), rfl, by kernel_rfl, ?_⟩, ⟨117, (.pointer (some ⟨eb, j * 10 + 6, none⟩)), rfl, by kernel_rfl, ?_⟩, ⟨118, (.int .i64 (b : Int)), rfl, by kernel_rfl, ?_⟩, ⟨119, (.slice (some ⟨eb, 0, none⟩) es.length cv), rfl, by kernel_rfl, ?_⟩, ⟨120, (.int .i64 (j : Int)), rfl, by kernel_rfl, ?_⟩, ⟨121, (.pointer (some ⟨eb, j * 10, none⟩)), rfl, by kernel_rfl, ?_⟩, ⟨122, (.pointer (some ⟨eb, j * 10 + 7, none⟩)), rfl, by kernel_rfl, ?_⟩, ⟨123, (.int .i64 (p : Int)), rfl, by kernel_rfl, ?_⟩, ⟨124, (.pointer (some ⟨wc.heap.size, b * 400, none⟩)), rfl, by kernel_rfl, ?_⟩, ⟨125, (.pointer (some ⟨wc.heap.size, b * 400 + p, none⟩)), rfl, by kernel_rfl, ?_⟩, Or.inr ⟨rfl, ?q1_12⟩, trivial⟩
        case q1_12 =>
         intro bsE vsE W hlb hlv hnd hbk h
         obtain ⟨b0, rfl⟩ := ll1 hlb
         obtain ⟨v0, rfl⟩ := ll1 hlv
         obtain rfl : b0 = false := hbk
         replace h : StS (fun W => W.ownsRow B9 31 10 (.slice (some ⟨eb, 0, none⟩) es.length cv) es.length (flatY es) ∧ wc.heap.size < W.heap.size) (fun W => UsA wc.heap.size (preE S.a k ++ es.take j) W ∧ Below wc.heap.size wc W) (fun W => UsA wc.heap.size (preE S.a k ++ es.take (j + 1)) W ∧ Below wc.heap.size wc W) false W := h
         clear hnd
         have HST := Lib.hid h
         obtain ⟨u0, u1⟩ := h.a rfl; obtain ⟨gu, fu, -⟩ := u0.cell e3 e4; obtain ⟨U9, u2, -⟩ := id u0; have hm : StS (fun W => W.ownsRow B9 31 10 (.slice (some ⟨eb, 0, none⟩) es.length cv) es.length (flatY es) ∧ wc.heap.size < W.heap.size) (fun W => UsA wc.heap.size (preE S.a k ++ es.take j) W ∧ Below wc.heap.size wc W) (fun W => UsA wc.heap.size (preE S.a k ++ es.take (j + 1)) W ∧ Below wc.heap.size wc W) true (W.setCell ⟨wc.heap.size, b * 400 + p, none⟩ (.bool true)) := ⟨⟨own_setT h.p.1 u2 (by decide), by show wc.heap.size < (W.setCell _ _).heap.size; simpa using h.p.2⟩, (fun e => by cases e), (fun _ => ⟨by rw [HTK.out]; exact u0.set e3 e4 rfl rfl, u1.setCell (Nat.le_refl _) _⟩)⟩; clear u0 u1 u2
         intro K Q hK
         simp only [putE, updAll, Act.put, sl1, sl2, sl3, sl4] at hK ⊢
         go_wp2_with fail
         all_goals (first | exact hK _ hm | exact hm)
        all_goals
         intro bsE vsE W hlb hlv hnd h
         obtain ⟨b0, rfl⟩ := ll1 hlb
         obtain ⟨v0, rfl⟩ := ll1 hlv
         replace h : StS (fun W => W.ownsRow B9 31 10 (.slice (some ⟨eb, 0, none⟩) es.length cv) es.length (flatY es) ∧ wc.heap.size < W.heap.size) (fun W => UsA wc.heap.size (preE S.a k ++ es.take j) W ∧ Below wc.heap.size wc W) (fun W => UsA wc.heap.size (preE S.a k ++ es.take (j + 1)) W ∧ Below wc.heap.size wc W) b0 W := h
         clear hnd
         have HST := Lib.hid h
         obtain ⟨g6, lb⟩ := ent_cell (t := 6) h.p.1 HY.out rfl; have g7 := (ent_cell (t := 7) h.p.1 HY.out rfl).1; have lX := h.p.2
         intro K Q hK
         simp only [putE, updAll, Act.put, sl1, sl2, sl3, sl4] at hK ⊢
         go_wp2_with (fail)
         all_goals (first | exact hK _ h | exact h)
       case done =>
        intro vsE W hlv h
        obtain ⟨v0, rfl⟩ := ll1 hlv
        replace h : StS (fun W => W.ownsRow B9 31 10 (.slice (some ⟨eb, 0, none⟩) es.length cv) es.length (flatY es) ∧ wc.heap.size < W.heap.size) (fun W => UsA wc.heap.size (preE S.a k ++ es.take j) W ∧ Below wc.heap.size wc W) (fun W => UsA wc.heap.size (preE S.a k ++ es.take (j + 1)) W ∧ Below wc.heap.size wc W) true W := h
        have HST := Lib.hid h
        obtain ⟨z1, z2⟩ := h.z rfl
        have HU3 := Lib.hid z1
        have HB3 := Lib.hid z2
        have HR3 : Hid (W.ownsRow B9 31 10 (.slice (some ⟨eb, 0, none⟩) es.length cv) es.length (flatY es)) := h.p.1
        clear z1 z2 h HST
        simp only [putE, updAll, Act.put, sl1, sl2, sl3, sl4]
        go_wp2_with fail
        exact ⟨⟨j + 1, m + 1, by omega, by push_cast; rfl, by push_cast; rfl, by show m + 1 = _; rw [HTK.out, List.length_append, ← HM.out]; rfl, HU3, HB3, HR3⟩, by simp [intOf]; omega⟩
      ·obtain rfl : j = es.length := by omega
       have HN2 : Hid (m = (preE S.a (k + 1)).length) := by show m = _; rw [HPS.out]; have q := HM.out; rw [List.take_of_length_le (Nat.le_refl _)] at q; exact q
       have HU3 : Hid (UsA wc.heap.size (preE S.a (k + 1)) wr) := by show UsA _ _ _; rw [HPS.out]; have q := HU2.out; rw [List.take_of_length_le (Nat.le_refl _)] at q; exact q
       clear hd HM HU2
       go_wp2_with fail
       exact ⟨⟨k + 1, m, by omega, by push_cast; rfl, rfl, HN2, HU3, HB2⟩, by simp [intOf]; omega⟩
   ·obtain rfl : k = S.packs.length := by omega
    obtain ⟨x0, x1, x2, q0, q1, q2, qs⟩ : ∃ x0 x1 x2 : Int, leftR g 0 = x0 ∧ leftR g 1 = x1 ∧ leftR g 2 = x2 ∧ ((0 ≤ x0 ∧ x0 ≤ 400) ∧ (0 ≤ x1 ∧ x1 ≤ 400) ∧ (0 ≤ x2 ∧ x2 ≤ 400)) ∧ x0 + x1 + x2 = 1200 - (n : Int) := by
     have hb : ∀ b : Nat, b < 3 → leftR g (b : Int) = 400 - (S.a.used.getD b 0 : Int) := fun b hb => by
      rw [left_abs, HWr.out.v.abs, leftA_at (by rw [HBK.out, booksW_len]; exact hb), HBK.out]
      have h2 : ((booksW s 3).getD b (0, [])).2.length = 400 := by
       rw [List.getD_eq_getElem?_getD]
       unfold booksW
       rw [List.getElem?_map, List.getElem?_range hb]
       exact padsW_len s b 400
      rw [h2]
      rfl
     have h0 := HUS.out 0 (by decide)
     have h1 := HUS.out 1 (by decide)
     have h2 := HUS.out 2 (by decide)
     have hn := HN.out
     rw [← HLP.out, preE_all, HPD.out.ct] at hn
     exact ⟨_, _, _, hb 0 (by decide), hb 1 (by decide), hb 2 (by decide), ⟨⟨by omega, by omega⟩, ⟨by omega, by omega⟩, ⟨by omega, by omega⟩⟩, by omega⟩
    obtain ⟨⟨b0, b1, b2⟩, qe⟩ := qs
    have CL : Hid (∀ (b : Int) (s : WStep wr), _) := fun b s => step_call s (Left_any (HWr.out.step s.2).v.ra (HWr.out.v.ok HOW.out.ok.toOkB) b)
    have C0 := Lib.hid (CL.out 0)
    have C1 := Lib.hid (CL.out 1)
    have C2 := Lib.hid (CL.out 2)
    rw [q0] at C0
    rw [q1] at C1
    rw [q2] at C2
    have HBB := Lib.hid (bStep H0.out.bel HB.out)
    have CW := Lib.hid (fun s : WStep wr => step_call s (works_any s.1 (gstep HG.out (bStep HBB.out s.2))))
    have w1 : IntKind.i64.wrap (x0 + x1) = x0 + x1 := Go.IntWalk.i64_in _ ⟨by omega, by omega⟩
    have w2 : IntKind.i64.wrap (x0 + x1 + x2) = x0 + x1 + x2 := Go.IntWalk.i64_in _ ⟨by omega, by omega⟩
    have w3 : IntKind.i64.wrap (1200 - (n : Int)) = 1200 - (n : Int) := Go.IntWalk.i64_in _ ⟨by omega, by omega⟩
    have w4 : (x0 + x1 + x2 == 1200 - (n : Int)) = true := by rw [qe]; simp
    clear CL qe b0 b1 b2 q0 q1 q2 HU HN
    go_upto_region 23 with fail
    have f0 := fun s : WStep wr => cell_step c0 s.2
    have fl := fun s : WStep wr => Nat.lt_of_lt_of_le cl s.2.size
    refine wp_region_lock (by kernel_rfl) (by kernel_rfl) ?_
    repeat (first | (refine WQ.skip rfl rfl rfl rfl ?_; simp only [Act.put, sl1, sl2, sl3, sl4]) | ((first | (apply WQ.val; (exact rfl)) | (apply WQ.valg; (exact rfl); (exact rfl); (exact rfl))); (intro w9 hw9; obtain ⟨s9, rfl⟩ := hw9; simp [go_sem, f0, fl, w1, w2, w3, w4]; first | done | exact rfl | (with_reducible exact C0.out s9) | (with_reducible exact C1.out s9) | (with_reducible exact C2.out s9) | (with_reducible exact CW.out s9)); simp only [Act.put, sl1, sl2, sl3, sl4]))
    refine WQ.fin fun W4 hbn => ?_
    go_wp2_with fail
    exact bodyPost_ret (v := .bool true) (by simp only [results, Tryz.results4]; go_simp) rfl ⟨rfl, bStep HBB.out hbn⟩
end Go.Proofs.YtmpilgkfbibhlaaGreatDoor
