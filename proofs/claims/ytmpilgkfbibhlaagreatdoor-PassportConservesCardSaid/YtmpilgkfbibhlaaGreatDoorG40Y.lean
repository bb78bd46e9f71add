/-
 PassportConserves: the walk.
-/
import Derived.Test.YtmpilgkfbibhlaaGreatDoorG0Y
import Derived.Test.YtmpilgkfbibhlaaGreatDoorG39Y
import Derived.Test.YtmpilgkfbibhlaaGreatDoorG34Y
import Derived.Test.YtmpilgkfbibhlaaGreatDoorG25Y
import Derived.Test.YtmpilgkfbibhlaaGreatDoorG30Y
import Derived.Test.YtmpilgkfbibhlaaGreatDoorG17Y
import Derived.Deep.CutBlock
import Derived.Deep.CutRange
set_option linter.unusedSimpArgs false
set_option linter.unusedVariables false
namespace Go.Proofs.YtmpilgkfbibhlaaGreatDoor
open Sx Go.RowKit Mr
set_option maxHeartbeats 8000000 in
set_option maxRecDepth 20000 in
theorem PassportConserves_walk (s : Nat) (hs : s < 256) {al : Option Addr} {cl : Nat} {l : List Sm} {w : World} (hG : Glob0 w) (hL : SmsAt al l w) (hO : ∀ x ∈ l, SmOk x) : Calls Tryz.prog 6 #[.int .u8 (s : Int), .slice al l.length cl] w fun en w' => en = .returned (.bool true) ∧ Below w.heap.size w w' := by
 have HG := Lib.hid hG
 have HL := Lib.hid hL
 have HO := Lib.hid hO
 clear hG hL hO
 go_enter Tryz.func6, Tryz.ntmps6
 go_upto_block 0 with (go_at_call 14; refine (begin_any s hs _).mono ?_; rintro e w1 ⟨Wd, R, vb, vk, rfl, hW⟩; have HW := Lib.hid hW; clear hW)
 go_cut [7] from 25 to 40 (fun s7 W => ∃ i : Nat, i ≤ l.length ∧ i ≤ 60 ∧ s7 = .int .i64 i ∧ Hid (WdE w Wd R vb vk (booksW s 3) (wlN s (l.take i)) W))
 case first =>
  go_wp2_with fail
  go_loopw [7] (fun ix wr => ∃ i : Nat, i ≤ l.length ∧ i ≤ 60 ∧ ix = .int .i64 i ∧ Hid (WdE w Wd R vb vk (booksW s 3) (wlN s (l.take i)) wr)) (fun ix _ => 60 - (intOf ix).toNat)
  case atStart => exact ⟨0, Nat.zero_le _, Nat.zero_le _, rfl, HW⟩
  case round =>
   obtain ⟨i, hi, hj, rfl, HS⟩ := hrel
   by_cases hc : i < l.length
   ·by_cases hd : i < 60
    ·have c1 : (i : Int) < l.length := by omega
     have c2 : (i : Int) < 60 := by omega
     have c0 : (0 : Int) ≤ i := by omega
     obtain ⟨x, hk⟩ : ∃ x, l[i]? = some x := ⟨l[i], List.getElem?_eq_getElem hc⟩
     have hOW := wlN_ok hs (l.take i)
     rw [List.length_take, Nat.min_eq_left hi] at hOW
     obtain ⟨z1, z2, z3⟩ := hOW.sizes (by omega) x
     have CD := Lib.hid (do_head HS.out hOW.ok HG.out x (HO.out x (List.mem_of_getElem? hk)) z1 z2 ⟨by rw [hOW.bl]; exact z2.1, by rw [hOW.tl]; exact z2.1⟩ z3)
     have HTK : Hid (wlN s (l.take (i + 1)) = doW (wlN s (l.take i)) x) := by show wlN s (l.take (i + 1)) = _; rw [take_snoc hk, wlN_snoc]
     obtain ⟨b, off, rfl, hbb, hbc⟩ := HL.out (by rintro e; rw [e] at hc; simp at hc)
     have HBW : Hid (Below w.heap.size w wr) := by obtain ⟨_, _, _, _, _, _, q⟩ := HS.out; exact q.bel
     have bl := Nat.lt_of_lt_of_le hbb HBW.out.size
     have x0 : wr.cell? ⟨b, off + i * 7, none⟩ = some (.int .u8 (x.do_ : Int)) := cell_step (hbc i x hk 0 _ rfl) HBW.out
     have x1 : wr.cell? ⟨b, off + i * 7 + 1, none⟩ = some (.int .u8 (x.by_ : Int)) := cell_step (hbc i x hk 1 _ rfl) HBW.out
     have x2 : wr.cell? ⟨b, off + i * 7 + 2, none⟩ = some (.int .u8 (x.p : Int)) := cell_step (hbc i x hk 2 _ rfl) HBW.out
     have x3 : wr.cell? ⟨b, off + i * 7 + 3, none⟩ = some (.int .u8 (x.m : Int)) := cell_step (hbc i x hk 3 _ rfl) HBW.out
     have x4 : wr.cell? ⟨b, off + i * 7 + 4, none⟩ = some (.int .u8 (x.t : Int)) := cell_step (hbc i x hk 4 _ rfl) HBW.out
     have x5 : wr.cell? ⟨b, off + i * 7 + 5, none⟩ = some (.int .u16 (x.n : Int)) := cell_step (hbc i x hk 5 _ rfl) HBW.out
     have x6 : wr.cell? ⟨b, off + i * 7 + 6, none⟩ = some (.int .u8 (x.later : Int)) := cell_step (hbc i x hk 6 _ rfl) HBW.out
     clear hk hOW z1 z2 z3 hbb hbc hd hc
     go_wp2_with (go_at_call 15; refine CD.out.mono ?_; rintro e w9 ⟨rfl, hz⟩; have HZ := Lib.hid hz; clear hz)
     exact ⟨⟨i + 1, by omega, by omega, by push_cast; rfl, by rw [HTK.out]; exact HZ⟩, by simp [intOf]; omega⟩
    ·have c1 : (i : Int) < l.length := by omega
     have c2 : ¬ (i : Int) < 60 := by omega
     clear hd hc
     go_wp2_with fail
     go_meet
     exact ⟨i, hi, hj, rfl, HS⟩
   ·have c1 : ¬ (i : Int) < l.length := by omega
    clear hc
    go_wp2_with fail
    go_meet
    exact ⟨i, hi, hj, rfl, HS⟩
 case rest =>
  obtain ⟨i, hi, hj, rfl, HS⟩ := hcut
  have hlt : (l.take i).length = i := by rw [List.length_take, Nat.min_eq_left hi]
  have hOW := wlN_ok hs (l.take i)
  rw [hlt] at hOW
  have hM := wlN_mod hs (l.take i) (by rw [hlt]; omega)
  obtain ⟨g, vp, vpk, vmd, vbt, vmk, hWd⟩ := HS.out
  clear HS
  generalize wlN s (l.take i) = S at *
  obtain ⟨ap, cp, evp⟩ := row_slice hWd.pk
  obtain ⟨am, cm, evm⟩ := row_slice hWd.md
  subst evp evm
  have hnp := hOW.np
  have hml := hOW.ml
  have hlp : S.a.ps.length = S.packs.length := by rw [← hOW.pk, List.length_map]
  have H0 := Lib.hid hWd
  have HMW := Lib.hid hM
  have HOW := Lib.hid hOW
  have HLP := Lib.hid hlp
  clear hWd hM hOW hlp hlt hi
  go_wp2_with fail
  go_loopw [8, 9] (fun tn kx wr => ∃ k n : Nat, k ≤ S.packs.length ∧ kx = .int .i64 k ∧ tn = .int .i64 n ∧ Hid (n = (preM S.a k).length) ∧ Hid (Below wc.heap.size wc wr)) (fun _ kx _ => S.packs.length - (intOf kx).toNat)
  case atStart => exact ⟨0, 0, Nat.zero_le _, rfl, rfl, rfl, Below.refl _ _⟩
  case round =>
   obtain ⟨k, n, hk, rfl, rfl, HN, HB⟩ := hrel
   have HWr := Lib.hid (H0.out.step HB.out)
   have c0 : wr.cell? ⟨Wd, 0, none⟩ = some (.pointer (some ⟨R, 0, none⟩)) := blk_cell (o := 0) HWr.out.blk rfl
   have c3 : wr.cell? ⟨Wd, 3, none⟩ = some (.slice ap S.packs.length cp) := blk_cell (o := 3) HWr.out.blk rfl
   have c4 : wr.cell? ⟨Wd, 4, none⟩ = some (.slice am S.mods.length cm) := blk_cell (o := 4) HWr.out.blk rfl
   have cl := blk_lt HWr.out.blk
   by_cases hc : k < S.packs.length
   ·have c1 : (k : Int) < S.packs.length := by omega
    have k0 : (0 : Int) ≤ k := by omega
    obtain ⟨q, hq⟩ : ∃ q, S.packs[k]? = some q := ⟨S.packs[k], List.getElem?_eq_getElem hc⟩
    obtain ⟨es, hp, hf⟩ := HOW.out.at hq
    have CE : Hid (∀ W, Below wr.heap.size wr W → Calls Tryz.prog 22 #[.pointer (some ⟨Wd, 0, none⟩), .string q] W fun en w' => ∃ v', en = .returned v' ∧ w'.ownsRow W.heap.size 29 6 v' es.length (flatE (evsOf es)) ∧ Below W.heap.size W w') := fun W hW => events_any ⟨_, _, _, _, _, _, HWr.out.step hW⟩ HOW.out.ok q (q, es) (by rw [hf]; exact hp)
    have CM : Hid (∀ W, Below wr.heap.size wr W → ∀ {a9 : Option Addr} (c9 : Nat), EvAt a9 (evsOf es) W → Calls Tryz.prog 21 #[.string q, .slice a9 (evsOf es).length c9] W fun en w' => ∃ v', en = .returned (.tuple #[v', .int .i64 0]) ∧ SRow v' (lf (q, es)).ms w' ∧ Below W.heap.size W w') := fun W hW a9 c9 hE => Modules_any c9 q hE (gstep HG.out (HWr.out.step hW).bel) (HOW.out.ok.legA (List.mem_of_getElem? hp))
    obtain ⟨pb, epb, hpb, hpc⟩ := row_cells (b := 0) (c := cp) HWr.out.pk (by omega)
    have gk : wr.cell? ⟨pb, k, none⟩ = some (.string q) := hpc k _ (by unfold strC; rw [List.getElem?_map, hq]; rfl)
    obtain rfl := epb
    have HF := Lib.hid (And.intro c0 (And.intro c3 (And.intro cl (And.intro gk hpb))))
    obtain ⟨pb2, epb2, hpb2, hpc2⟩ := row_cells (b := 0) (c := cp) H0.out.pk (by omega)
    have HGK : Hid (wc.cell? ⟨pb, k, none⟩ = some (.string q) ∧ pb < wc.heap.size) := by cases epb2; exact ⟨hpc2 k _ (by unfold strC; rw [List.getElem?_map, hq]; rfl), hpb2⟩
    have HPE := Lib.hid hp
    have HPS : Hid (preM S.a (k + 1) = preM S.a k ++ (lf (q, es)).ms) := preM_snoc hp
    have hn9 : n + (lf (q, es)).ms.length ≤ 240 := by
     obtain ⟨r, hr⟩ := preM_part hp
     have h1 := HMW.out.pm.length_eq
     rw [hr, List.length_append, List.length_append] at h1
     have := HN.out
     omega
    clear hpc hq hp hf hc c4 hpb2 hpc2 epb2
    go_upto_region 12 with fail
    refine region_all 22 6 143 [(15, 66), (16, 67), (17, 50), (18, 68), (20, 10)] [(none, []), (none, []), (none, []), (none, []), (none, []), (none, []), (none, []), (none, []), (none, []), (none, []), (none, []), (none, []), (none, []), (none, []), (none, []), (some 0, []), (some 1, [0]), (some 2, [1]), (some 3, [2]), (none, [2]), (some 4, [3]), (none, [])] [(51, (.pointer (some ⟨Wd, 0, none⟩))), (52, (.pointer (some ⟨Wd, 0, none⟩))), (53, (.pointer (some ⟨Wd, 3, none⟩))), (54, (.slice (some ⟨pb, 0, none⟩) S.packs.length cp)), (55, (.int .i64 (k : Int))), (56, (.pointer (some ⟨pb, k, none⟩))), (57, (.string q)), (58, (.pointer (some ⟨Wd, 0, none⟩))), (59, (.pointer (some ⟨Wd, 0, none⟩))), (60, (.pointer (some ⟨Wd, 0, none⟩))), (61, (.pointer (some ⟨Wd, 3, none⟩))), (62, (.slice (some ⟨pb, 0, none⟩) S.packs.length cp)), (63, (.int .i64 (k : Int))), (64, (.pointer (some ⟨pb, k, none⟩))), (65, (.string q)), (69, (.int .i64 0)), (11, (.int .i64 0))] (fun bsE vsE W => CbV (fun W => Below wr.heap.size wr W) (EvSl es) (fun v' W => SRow v' (lf (q, es)).ms W) tup0 (bsE.getD 0 false) (bsE.getD 1 false) (bsE.getD 2 false) (bsE.getD 3 false) (bsE.getD 4 false) ((vsE.getD 0 undef)) ((vsE.getD 1 undef)) ((vsE.getD 2 undef)) ((vsE.getD 3 undef)) ((vsE.getD 4 undef)) W) (by kernel_rfl) (by kernel_rfl) rfl rfl (by kernel_rfl) (by rfl) ?h0 ?each ?done
    case h0 =>
     intro vsE hlv
     obtain ⟨v0, v1, v2, v3, v4, rfl⟩ := ll5 hlv
     exact CbV.start (Below.refl _ _).drew
    case each =>
     simp only [AllE]
     refine ⟨⟨51, (.pointer (some ⟨Wd, 0, none⟩)), rfl, by kernel_rfl, ?_⟩, ⟨52, (.pointer (some ⟨Wd, 0, none⟩)), rfl, by kernel_rfl, ?_⟩, ⟨53, (.pointer (some ⟨Wd, 3, none⟩)), rfl, by kernel_rfl, ?_⟩, ⟨54, (.slice (some ⟨pb, 0, none⟩) S.packs.length cp), rfl, by kernel_rfl, ?_⟩, ⟨55, (.int .i64 (k : Int)), rfl, by kernel_rfl, ?_⟩, ⟨56, (.pointer (some ⟨pb, k, none⟩)), rfl, by kernel_rfl, ?_⟩, ⟨57, (.string q), rfl, by kernel_rfl, ?_⟩, ⟨58, (.pointer (some ⟨Wd, 0, none⟩)), rfl, by kernel_rfl, ?_⟩, ⟨59, (.pointer (some ⟨Wd, 0, none⟩)), rfl, by kernel_rfl, ?_⟩, ⟨60, (.pointer (some ⟨Wd, 0, none⟩)), rfl, by kernel_rfl, ?_⟩, ⟨61, (.pointer (some ⟨Wd, 3, none⟩)), rfl, by kernel_rfl, ?_⟩, ⟨62, (.slice (some ⟨pb, 0, none⟩) S.packs.length cp), rfl, by kernel_rfl, ?_⟩, ⟨63, (.int .i64 (k : Int)), rfl, by kernel_rfl, ?_⟩, ⟨64, (.pointer (some ⟨pb, k, none⟩)), rfl, by kernel_rfl, ?_⟩, ⟨65, (.string q), rfl, by kernel_rfl, ?_⟩, Or.inl ⟨66, rfl, ?q1_15⟩, Or.inl ⟨67, rfl, ?q1_16⟩, Or.inl ⟨50, rfl, ?q1_17⟩, Or.inl ⟨68, rfl, ?q1_18⟩, ⟨69, (.int .i64 0), rfl, by kernel_rfl, ?q1_19⟩, Or.inl ⟨10, rfl, ?q1_20⟩, ⟨11, (.int .i64 0), rfl, by kernel_rfl, ?_⟩, trivial⟩
     case q1_15 =>
      intro bsE vsE W hlb hlv hnd hbk h
      obtain ⟨b0, b1, b2, b3, b4, rfl⟩ := ll5 hlb
      obtain ⟨v0, v1, v2, v3, v4, rfl⟩ := ll5 hlv
      obtain rfl : b0 = false := hbk
      replace h : CbV (fun W => Below wr.heap.size wr W) (EvSl es) (fun v' W => SRow v' (lf (q, es)).ms W) tup0 false b1 b2 b3 b4 (v0) (v1) (v2) (v3) (v4) W := h
      clear hnd
      have HST := Lib.hid h
      skip
      intro K Q hK
      simp only [putE, updAll, Act.put, sl1, sl2, sl3, sl4] at hK ⊢
      go_wp2_with (go_at_call 22; refine (CE.out _ h.p).mono ?_; rintro en w9 ⟨v', rfl, ho9, hb9⟩)
      all_goals (have hm := h.mk0 (v' := v') (bStep h.p hb9) (by obtain ⟨a9, c9, e9⟩ := row_slice ho9; subst e9; have hl9 := evs_len es; rw [← hl9] at ho9 ⊢; exact ⟨a9, c9, rfl, flatE_EvAt ho9⟩))
      all_goals (first | exact hK _ _ hm | exact hm)
     case q1_16 =>
      intro bsE vsE W hlb hlv hnd hbk h
      obtain ⟨b0, b1, b2, b3, b4, rfl⟩ := ll5 hlb
      obtain ⟨v0, v1, v2, v3, v4, rfl⟩ := ll5 hlv
      obtain rfl : b0 = true := hnd 0 (by simp)
      obtain rfl : b1 = false := hbk
      replace h : CbV (fun W => Below wr.heap.size wr W) (EvSl es) (fun v' W => SRow v' (lf (q, es)).ms W) tup0 true false b2 b3 b4 (v0) (v1) (v2) (v3) (v4) W := h
      clear hnd
      have HST := Lib.hid h
      obtain ⟨a9, c9, rfl, hev⟩ := h.y rfl
      intro K Q hK
      simp only [putE, updAll, Act.put, sl1, sl2, sl3, sl4] at hK ⊢
      go_wp2_with (go_at_call 21; refine (CM.out _ h.p c9 hev).mono ?_; rintro en w9 ⟨v', rfl, hs9, hb9⟩)
      all_goals (have hm := h.mk1 (bStep h.p hb9) ⟨a9, c9, rfl, hev.step hb9⟩ hs9)
      all_goals (first | exact hK _ _ hm | exact hm)
     case q1_17 =>
      intro bsE vsE W hlb hlv hnd hbk h
      obtain ⟨b0, b1, b2, b3, b4, rfl⟩ := ll5 hlb
      obtain ⟨v0, v1, v2, v3, v4, rfl⟩ := ll5 hlv
      obtain rfl : b1 = true := hnd 1 (by simp)
      obtain rfl : b2 = false := hbk
      replace h : CbV (fun W => Below wr.heap.size wr W) (EvSl es) (fun v' W => SRow v' (lf (q, es)).ms W) tup0 b0 true false b3 b4 (v0) (v1) (v2) (v3) (v4) W := h
      clear hnd
      have HST := Lib.hid h
      obtain ⟨vt, rfl⟩ := h.val1; have hm := h.mk2
      intro K Q hK
      simp only [putE, updAll, Act.put, sl1, sl2, sl3, sl4] at hK ⊢
      go_wp2_with fail
      all_goals (first | exact hK _ _ hm | exact hm)
     case q1_18 =>
      intro bsE vsE W hlb hlv hnd hbk h
      obtain ⟨b0, b1, b2, b3, b4, rfl⟩ := ll5 hlb
      obtain ⟨v0, v1, v2, v3, v4, rfl⟩ := ll5 hlv
      obtain rfl : b2 = true := hnd 2 (by simp)
      obtain rfl : b3 = false := hbk
      replace h : CbV (fun W => Below wr.heap.size wr W) (EvSl es) (fun v' W => SRow v' (lf (q, es)).ms W) tup0 b0 b1 true false b4 (v0) (v1) (v2) (v3) (v4) W := h
      clear hnd
      have HST := Lib.hid h
      obtain ⟨vt, rfl⟩ := h.val2; have hm := h.mk3 tup0_inj; unfold tup0
      intro K Q hK
      simp only [putE, updAll, Act.put, sl1, sl2, sl3, sl4] at hK ⊢
      go_wp2_with fail
      all_goals (first | exact hK _ _ hm | exact hm)
     case q1_19 =>
      intro bsE vsE W hlb hlv hnd h
      obtain ⟨b0, b1, b2, b3, b4, rfl⟩ := ll5 hlb
      obtain ⟨v0, v1, v2, v3, v4, rfl⟩ := ll5 hlv
      obtain rfl : b2 = true := hnd 2 (by simp)
      replace h : CbV (fun W => Below wr.heap.size wr W) (EvSl es) (fun v' W => SRow v' (lf (q, es)).ms W) tup0 b0 b1 true b3 b4 (v0) (v1) (v2) (v3) (v4) W := h
      clear hnd
      have HST := Lib.hid h
      obtain ⟨vt, rfl⟩ := h.val2; unfold tup0
      intro K Q hK
      simp only [putE, updAll, Act.put, sl1, sl2, sl3, sl4] at hK ⊢
      go_wp2_with (fail)
      all_goals (first | exact hK _ h | exact h)
     case q1_20 =>
      intro bsE vsE W hlb hlv hnd hbk h
      obtain ⟨b0, b1, b2, b3, b4, rfl⟩ := ll5 hlb
      obtain ⟨v0, v1, v2, v3, v4, rfl⟩ := ll5 hlv
      obtain rfl : b3 = true := hnd 3 (by simp)
      obtain rfl : b4 = false := hbk
      replace h : CbV (fun W => Below wr.heap.size wr W) (EvSl es) (fun v' W => SRow v' (lf (q, es)).ms W) tup0 b0 b1 b2 true false (v0) (v1) (v2) (v3) (v4) W := h
      clear hnd
      have HST := Lib.hid h
      have hm := h.mk4
      intro K Q hK
      simp only [putE, updAll, Act.put, sl1, sl2, sl3, sl4] at hK ⊢
      go_wp2_with fail
      all_goals (first | exact hK _ _ hm | exact hm)
     all_goals
      intro bsE vsE W hlb hlv hnd h
      obtain ⟨b0, b1, b2, b3, b4, rfl⟩ := ll5 hlb
      obtain ⟨v0, v1, v2, v3, v4, rfl⟩ := ll5 hlv
      replace h : CbV (fun W => Below wr.heap.size wr W) (EvSl es) (fun v' W => SRow v' (lf (q, es)).ms W) tup0 b0 b1 b2 b3 b4 (v0) (v1) (v2) (v3) (v4) W := h
      clear hnd
      have HST := Lib.hid h
      obtain ⟨f0, f3, fl, fk, fb⟩ := HF.out; have d0 := cell_step f0 h.p; have d3 := cell_step f3 h.p; have dl := Nat.lt_of_lt_of_le fl h.p.size; have dk := cell_step fk h.p; have db := Nat.lt_of_lt_of_le fb h.p.size; clear f0 f3 fl fk fb
      intro K Q hK
      simp only [putE, updAll, Act.put, sl1, sl2, sl3, sl4] at hK ⊢
      go_wp2_with (fail)
      all_goals (first | exact hK _ h | exact h)
    case done =>
     intro vsE W hlv h
     obtain ⟨v0, v1, v2, v3, v4, rfl⟩ := ll5 hlv
     replace h : CbV (fun W => Below wr.heap.size wr W) (EvSl es) (fun v' W => SRow v' (lf (q, es)).ms W) tup0 true true true true true (v0) (v1) (v2) (v3) (v4) W := h
     have HST := Lib.hid h
     obtain ⟨hb9, rfl, rfl, rfl, hs9⟩ := h.fin
     clear h HST
     simp only [putE, updAll, Act.put, sl1, sl2, sl3, sl4]
     have HBW : Hid (Below wc.heap.size wc W) := bStep HB.out hb9
     obtain ⟨av, cv, ev9, hs8⟩ := SRow.cells hs9
     subst ev9
     have HSR := Lib.hid hs8
     clear hb9 hs8 hs9 HB HWr CE CM HF c0 c3 cl gk hpb
     have hw8 : IntKind.i64.wrap ((n : Int) + ((lf (q, es)).ms.length : Int)) = (n : Int) + ((lf (q, es)).ms.length : Int) := Go.IntWalk.i64_in _ ⟨by omega, by omega⟩
     generalize hML : (lf (q, es)).ms.length = ml at *
     have HML := Lib.hid hML
     clear hML
     go_wp2_with fail
     go_loopw [12] (fun jx wv => ∃ j : Nat, j ≤ ml ∧ jx = .int .i64 j ∧ Hid (Below W.heap.size W wv)) (fun jx _ => ml - (intOf jx).toNat)
     case atStart => exact ⟨0, Nat.zero_le _, rfl, Below.refl _ _⟩
     case round =>
      obtain ⟨j, hj9, rfl, HV⟩ := hrel
      by_cases hd : j < ml
      ·have d1 : (j : Int) < ml := by omega
       have d0 : (0 : Int) ≤ j := by omega
       obtain ⟨m, hm⟩ : ∃ m, (lf (q, es)).ms[j]? = some m := ⟨_, List.getElem?_eq_getElem (by rw [HML.out]; exact hd)⟩
       obtain ⟨mb, mo, rfl, hmb, hmc⟩ := HSR.out (by intro e; rw [e] at hm; cases hm)
       have gm := cell_step (hmc j m hm) HV.out
       have hmm := List.mem_of_getElem? hm
       have hwh : whereA m S.a = k := HMW.out.whr HPE.out hmm
       have HWv := Lib.hid (H0.out.step (bStep HBW.out HV.out))
       have hmB := HOW.out.ok.toOkB.mods (List.mem_of_getElem? HPE.out) hmm
       have CW := Lib.hid (fun s : WStep wr => step_call s (Where_yes (HWv.out.step s.2).v HOW.out.ok (gstep HG.out (HWv.out.step s.2).bel) m (by have := modB_size hmB; omega) hmB (q, es) (by rw [hwh]; exact HPE.out)))
       have c0 : wr.cell? ⟨Wd, 0, none⟩ = some (.pointer (some ⟨R, 0, none⟩)) := blk_cell (o := 0) HWv.out.blk rfl
       have c3 : wr.cell? ⟨Wd, 3, none⟩ = some (.slice (some ⟨pb, 0, none⟩) S.packs.length cp) := blk_cell (o := 3) HWv.out.blk rfl
       have cl := blk_lt HWv.out.blk
       have gq := cell_step HGK.out.1 (bStep HBW.out HV.out)
       have lm := Nat.lt_of_lt_of_le hmb HV.out.size
       have lq := Nat.lt_of_lt_of_le HGK.out.2 (bStep HBW.out HV.out).size
       clear hmc hm hmm hwh hmB hmb hd
       go_upto_region 19 with fail
       have f0 := fun s : WStep wr => cell_step c0 s.2
       have fm := fun s : WStep wr => cell_step gm s.2
       have fl := fun s : WStep wr => Nat.lt_of_lt_of_le cl s.2.size
       have fk := fun s : WStep wr => Nat.lt_of_lt_of_le lm s.2.size
       refine wp_region_lock (by kernel_rfl) (by kernel_rfl) ?_
       repeat (first | (refine WQ.skip rfl rfl rfl rfl ?_; simp only [Act.put, sl1, sl2, sl3, sl4]) | ((first | (apply WQ.val; (exact rfl)) | (apply WQ.valg; (exact rfl); (exact rfl); (exact rfl))); (intro w9 hw9; obtain ⟨s9, rfl⟩ := hw9; simp [go_sem, f0, fm, fl, fk, d0, d1]; first | done | exact rfl | (with_reducible exact CW.out s9)); simp only [Act.put, sl1, sl2, sl3, sl4]))
       refine WQ.fin fun W4 hbn => ?_
       have e3 := cell_step c3 hbn
       have eq := cell_step gq hbn
       have el := Nat.lt_of_lt_of_le cl hbn.size
       have ek := Nat.lt_of_lt_of_le lq hbn.size
       have HV2 := Lib.hid (bStep HV.out hbn)
       clear f0 fm fl fk c0 c3 gm gq cl lm lq CW HV hbn HWv
       go_wp2_with fail
       exact ⟨⟨j + 1, by omega, by push_cast; rfl, HV2⟩, by simp [intOf]; omega⟩
      ·obtain rfl : j = ml := by omega
       clear hd
       go_wp2_with fail
       exact ⟨⟨k + 1, n + j, by omega, by push_cast; rfl, by push_cast; rfl, by show n + j = _; rw [HPS.out, List.length_append, ← HN.out, HML.out], bStep HBW.out HV.out⟩, by simp [intOf]; omega⟩
   ·obtain rfl : k = S.packs.length := by omega
    have HNE : Hid (n = S.mods.length) := by show n = _; rw [← HMW.out.pm.length_eq, ← preM_all, HLP.out]; exact HN.out
    clear hc HN c0 c4 HWr
    go_wp2_with fail
    clear c3 cl
    go_loopw [15] (fun jx wv => ∃ j : Nat, j ≤ S.mods.length ∧ jx = .int .i64 j ∧ Hid (Below wc.heap.size wc wv)) (fun jx _ => S.mods.length - (intOf jx).toNat)
    case atStart => exact ⟨0, Nat.zero_le _, rfl, HB⟩
    case round =>
     obtain ⟨j, hj9, rfl, HV⟩ := hrel
     have HWv := Lib.hid (H0.out.step HV.out)
     have c0 : wr.cell? ⟨Wd, 0, none⟩ = some (.pointer (some ⟨R, 0, none⟩)) := blk_cell (o := 0) HWv.out.blk rfl
     have c4 : wr.cell? ⟨Wd, 4, none⟩ = some (.slice am S.mods.length cm) := blk_cell (o := 4) HWv.out.blk rfl
     have cl := blk_lt HWv.out.blk
     by_cases hd : j < S.mods.length
     ·have d1 : (j : Int) < S.mods.length := by omega
      have d0 : (0 : Int) ≤ j := by omega
      obtain ⟨m, hm⟩ : ∃ m, S.mods[j]? = some m := ⟨_, List.getElem?_eq_getElem hd⟩
      obtain ⟨mb, emb, hmb, hmc⟩ := row_cells (b := 0) (c := cm) HWv.out.md (by omega)
      obtain rfl := emb
      have gm : wr.cell? ⟨mb, j, none⟩ = some (.string m) := hmc j _ (by unfold strC; rw [List.getElem?_map, hm]; rfl)
      have hmm := List.mem_of_getElem? hm
      obtain ⟨p, hp⟩ := HMW.out.has hmm
      have hmB : modB m = true := by obtain ⟨k9, j9, -, h9, rfl⟩ := HOW.out.md m hmm; exact (modN_mod (nameP_ok k9) (by omega)).1
      have CW := Lib.hid (fun s : WStep wr => step_call s (Where_yes (HWv.out.step s.2).v HOW.out.ok (gstep HG.out (HWv.out.step s.2).bel) m (by have := modB_size hmB; omega) hmB p hp))
      clear hmc hm hmm hmB hd hp
      go_upto_region 25 with fail
      have f0 := fun s : WStep wr => cell_step c0 s.2
      have f4 := fun s : WStep wr => cell_step c4 s.2
      have fm := fun s : WStep wr => cell_step gm s.2
      have fl := fun s : WStep wr => Nat.lt_of_lt_of_le cl s.2.size
      have fk := fun s : WStep wr => Nat.lt_of_lt_of_le hmb s.2.size
      refine wp_region_lock (by kernel_rfl) (by kernel_rfl) ?_
      repeat (first | (refine WQ.skip rfl rfl rfl rfl ?_; simp only [Act.put, sl1, sl2, sl3, sl4]) | ((first | (apply WQ.val; (exact rfl)) | (apply WQ.valg; (exact rfl); (exact rfl); (exact rfl))); (intro w9 hw9; obtain ⟨s9, rfl⟩ := hw9; simp [go_sem, f0, f4, fm, fl, fk, d0, d1]; first | done | exact rfl | (with_reducible exact CW.out s9)); simp only [Act.put, sl1, sl2, sl3, sl4]))
      refine WQ.fin fun W4 hbn => ?_
      have HV2 := Lib.hid (bStep HV.out hbn)
      clear f0 f4 fm fl fk c0 c4 gm cl hmb CW HV hbn HWv
      go_wp2_with fail
      exact ⟨⟨j + 1, by omega, by push_cast; rfl, HV2⟩, by simp [intOf]; omega⟩
     ·obtain rfl : j = S.mods.length := by omega
      have hne := HNE.out
      have HBB := Lib.hid (bStep H0.out.bel HV.out)
      have CW := Lib.hid (works_any wr (gstep HG.out HBB.out))
      have heq : ((n : Int) == (S.mods.length : Int)) = true := by rw [hne]; simp
      clear hd hne
      go_wp2_with (go_at_call 10; refine CW.out.mono ?_; rintro e w9 ⟨rfl, hb9⟩)
      exact bodyPost_ret (v := .bool true) (by simp only [results, Tryz.results6]; go_simp) rfl ⟨rfl, bStep HBB.out hb9⟩
end Go.Proofs.YtmpilgkfbibhlaaGreatDoor
