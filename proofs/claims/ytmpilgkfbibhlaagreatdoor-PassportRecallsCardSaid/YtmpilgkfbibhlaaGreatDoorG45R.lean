/-
 PassportRecalls: the walk.
-/
import Derived.Test.YtmpilgkfbibhlaaGreatDoorG0R
import Derived.Test.YtmpilgkfbibhlaaGreatDoorG40R
import Derived.Test.YtmpilgkfbibhlaaGreatDoorG41R
import Derived.Test.YtmpilgkfbibhlaaGreatDoorG39R
import Derived.Test.YtmpilgkfbibhlaaGreatDoorG28R
import Derived.Test.YtmpilgkfbibhlaaGreatDoorG30R
import Derived.Test.YtmpilgkfbibhlaaGreatDoorG31R
import Derived.Test.YtmpilgkfbibhlaaGreatDoorG44R
import Derived.Deep.CutBlock
import Derived.Deep.CutRange
set_option linter.unusedSimpArgs false
set_option linter.unusedVariables false
namespace Go.Proofs.YtmpilgkfbibhlaaGreatDoor
open Sx Go.RowKit Mr
set_option maxHeartbeats 8000000 in
set_option maxRecDepth 20000 in
theorem PassportRecalls_walk (s : Nat) (hs : s < 256) {al : Option Addr} {cl : Nat} {l : List Sm} {w : World} (hG : Glob0 w) (hL : SmsAt al l w) (hO : ∀ x ∈ l, SmOk x) (b : Nat) (hb : b < 256) (u : Nat) (hu : u < 256) : Calls Tryz.prog 5 #[.int .u8 (s : Int), .slice al l.length cl, .int .u8 (b : Int), .int .u8 (u : Int)] w fun en w' => en = .returned (.bool true) ∧ Below w.heap.size w w' := by
 have HG := Lib.hid hG
 have HL := Lib.hid hL
 have HO := Lib.hid hO
 have HUB := Lib.hid (And.intro hb hu)
 clear hG hL hO hb hu
 go_enter Tryz.func5, Tryz.ntmps5
 go_upto_block 0 with (go_at_call 14; refine (begin_any s hs _).mono ?_; rintro e w1 ⟨Wd, R, vb, vk, rfl, hW⟩; have HW := Lib.hid hW; clear hW)
 go_cut [11] from 31 to 46 (fun s7 W => ∃ i : Nat, i ≤ l.length ∧ i ≤ 50 ∧ s7 = .int .i64 i ∧ Hid (WdE w Wd R vb vk (booksW s 3) (wlN s (l.take i)) W))
 case first =>
  go_wp2_with fail
  go_loopw [11] (fun ix wr => ∃ i : Nat, i ≤ l.length ∧ i ≤ 50 ∧ ix = .int .i64 i ∧ Hid (WdE w Wd R vb vk (booksW s 3) (wlN s (l.take i)) wr)) (fun ix _ => 50 - (intOf ix).toNat)
  case atStart => exact ⟨0, Nat.zero_le _, Nat.zero_le _, rfl, HW⟩
  case round =>
   obtain ⟨i, hi, hj, rfl, HS⟩ := hrel
   by_cases hc : i < l.length
   ·by_cases hd : i < 50
    ·have c1 : (i : Int) < l.length := by omega
     have c2 : (i : Int) < 50 := by omega
     have c0 : (0 : Int) ≤ i := by omega
     obtain ⟨x, hk⟩ : ∃ x, l[i]? = some x := ⟨l[i], List.getElem?_eq_getElem hc⟩
     have hOW := wlN_ok hs (l.take i)
     rw [List.length_take, Nat.min_eq_left hi] at hOW
     obtain ⟨z1, z2, z3⟩ := hOW.sizes (by omega) x
     have CD := Lib.hid (do_head HS.out hOW.ok HG.out x (HO.out x (List.mem_of_getElem? hk)) z1 z2 ⟨by rw [hOW.bl]; exact z2.1, by rw [hOW.tl]; exact z2.1⟩ z3)
     have HTK : Hid (wlN s (l.take (i + 1)) = doW (wlN s (l.take i)) x) := by show wlN s (l.take (i + 1)) = _; rw [take_snoc hk, wlN_snoc]
     obtain ⟨b, off, rfl, hbb, hbc⟩ := HL.out (by rintro e; rw [e] at hc; simp at hc)
     have HBW : Hid (Below w.heap.size w wr) := by obtain ⟨_, _, _, _, _, _, q⟩ := HS.out; exact q.bel
     have bl := Nat.lt_of_lt_of_le hbb HBW.out.size
     have x0 : wr.cell? ⟨b, off + i * 7, none⟩ = some (.int .u8 (x.do_ : Int)) := cell_step (hbc i x hk 0 _ rfl) HBW.out
     have x1 : wr.cell? ⟨b, off + i * 7 + 1, none⟩ = some (.int .u8 (x.by_ : Int)) := cell_step (hbc i x hk 1 _ rfl) HBW.out
     have x2 : wr.cell? ⟨b, off + i * 7 + 2, none⟩ = some (.int .u8 (x.p : Int)) := cell_step (hbc i x hk 2 _ rfl) HBW.out
     have x3 : wr.cell? ⟨b, off + i * 7 + 3, none⟩ = some (.int .u8 (x.m : Int)) := cell_step (hbc i x hk 3 _ rfl) HBW.out
     have x4 : wr.cell? ⟨b, off + i * 7 + 4, none⟩ = some (.int .u8 (x.t : Int)) := cell_step (hbc i x hk 4 _ rfl) HBW.out
     have x5 : wr.cell? ⟨b, off + i * 7 + 5, none⟩ = some (.int .u16 (x.n : Int)) := cell_step (hbc i x hk 5 _ rfl) HBW.out
     have x6 : wr.cell? ⟨b, off + i * 7 + 6, none⟩ = some (.int .u8 (x.later : Int)) := cell_step (hbc i x hk 6 _ rfl) HBW.out
     clear hk hOW z1 z2 z3 hbb hbc hd hc
     go_wp2_with (go_at_call 15; refine CD.out.mono ?_; rintro e w9 ⟨rfl, hz⟩; have HZ := Lib.hid hz; clear hz)
     exact ⟨⟨i + 1, by omega, by omega, by push_cast; rfl, by rw [HTK.out]; exact HZ⟩, by simp [intOf]; omega⟩
    ·have c1 : (i : Int) < l.length := by omega
     have c2 : ¬ (i : Int) < 50 := by omega
     clear hd hc
     go_wp2_with fail
     go_meet
     exact ⟨i, hi, hj, rfl, HS⟩
   ·have c1 : ¬ (i : Int) < l.length := by omega
    clear hc
    go_wp2_with fail
    go_meet
    exact ⟨i, hi, hj, rfl, HS⟩
 case rest =>
  obtain ⟨i, hi, hj, rfl, HS⟩ := hcut
  have hlt : (l.take i).length = i := by rw [List.length_take, Nat.min_eq_left hi]
  have hOW := wlN_ok hs (l.take i)
  rw [hlt] at hOW
  have hM := wlN_mod hs (l.take i) (by rw [hlt]; omega)
  have hR := wlN_rec hs (l.take i)
  rw [hlt] at hR
  have hV := wlN_ver hs (l.take i)
  have hB := (wlN_bks hs (l.take i)).1
  obtain ⟨g, vp, vpk, vmd, vbt, vmk, hWd⟩ := HS.out
  clear HS
  generalize wlN s (l.take i) = S at *
  have hcd := rec_code (b := b) hOW hj hR hV hB HUB.out.2
  obtain ⟨ap, cp, evp⟩ := row_slice hWd.pk
  subst evp
  have hnp := hOW.np
  have hlp : S.a.ps.length = S.packs.length := by rw [← hOW.pk, List.length_map]
  have H0 := Lib.hid hWd
  have HMW := Lib.hid hM
  have HRW := Lib.hid hR
  have HOW := Lib.hid hOW
  have HOW2 := Lib.hid (rec_okW hOW hcd)
  have HLP := Lib.hid hlp
  have HCD := Lib.hid hcd
  clear hWd hM hR hV hB hOW hlp hlt hi hcd
  obtain ⟨j0, hj0, hy0, hy1, hy2⟩ := info_parts infoBo
  go_wp2_with fail
  go_loopw [12, 13] (fun bv kx wr => ∃ k : Nat, k ≤ S.packs.length ∧ kx = .int .i64 k ∧ Hid (wr.ownsRow wc.heap.size 4 1 bv k (befC S k)) ∧ Hid (Below wc.heap.size wc wr)) (fun _ kx _ => S.packs.length - (intOf kx).toNat)
  case atStart => exact ⟨0, Nat.zero_le _, rfl, ⟨rfl, Or.inl ⟨rfl, rfl⟩⟩, Below.refl _ _⟩
  case round =>
   obtain ⟨k, hk, rfl, HBV, HB⟩ := hrel
   have HWr := Lib.hid (H0.out.step HB.out)
   have c3 : wr.cell? ⟨Wd, 3, none⟩ = some (.slice ap S.packs.length cp) := blk_cell (o := 3) HWr.out.blk rfl
   have cl := blk_lt HWr.out.blk
   by_cases hc : k < S.packs.length
   ·have c1 : (k : Int) < S.packs.length := by omega
    have k0 : (0 : Int) ≤ k := by omega
    obtain ⟨q, hq⟩ : ∃ q, S.packs[k]? = some q := ⟨S.packs[k], List.getElem?_eq_getElem hc⟩
    obtain ⟨es, hp, hf⟩ := HOW.out.at hq
    have CF := Lib.hid (fires_any ⟨_, _, _, _, _, _, HWr.out⟩ HOW.out.ok q (q, es) (by rw [hf]; exact hp))
    have HBS : Hid (befC S (k + 1) = befC S k ++ [.bool (fireP (evsOf es))]) := befC_snoc hp
    generalize fireP (evsOf es) = o1 at *
    obtain ⟨pb, epb, hpb, hpc⟩ := row_cells (b := 0) (c := cp) HWr.out.pk (by omega)
    have gk : wr.cell? ⟨pb, k, none⟩ = some (.string q) := hpc k _ (by unfold strC; rw [List.getElem?_map, hq]; rfl)
    obtain rfl := epb
    obtain ⟨aB, cB, evB⟩ := row_slice HBV.out
    subst evB
    clear hpc hq hp hf hc HWr
    go_wp2_with (first | (go_at_call 18; refine CF.out.mono ?_; rintro e w9 ⟨rfl, hb9⟩; have HB9 := Lib.hid (bStep HB.out hb9)) | (at_builtin; refine wpList_app _ rfl (.tmp 56) (.tmp 66) 55 rfl wc.heap.size 4 j0 _ 1 1 Tryz.underlying55 hj0 hy0 hy1 hy2 rfl (by decide) _ k (befC S k) rfl (own_step (own_step HBV.out hb9) bAl) (some ⟨w9.heap.size, 0, none⟩) 1 1 [.bool o1] rfl rfl new_cellsB (boo1 _) (by unfold maxLen; omega) (by omega) (by have := HB9.out.size; simp; omega) ?_; intro v' w5 hown hgrow hat; have hO2 : Hid (w5.ownsRow wc.heap.size 4 1 v' (k + 1) (befC S (k + 1))) := (by show World.ownsRow _ _ _ _ _ _ _; rw [HBS.out]; exact hown); have hB2 : Hid (Below wc.heap.size wc w5) := (bAlloc HB9.out _).grown hgrow (by have := HB9.out.size; simp; omega) (fun k hk => (World.ownsRow.lt HBV.out k hk).1); clear hown hgrow hat))
    exact ⟨⟨k + 1, by omega, by push_cast; rfl, hO2, hB2⟩, by simp [intOf]; omega⟩
   ·obtain rfl : k = S.packs.length := by omega
    obtain ⟨aB, cB, evB⟩ := row_slice HBV.out
    subst evB
    have HS0 : Hid (WdAt w Wd R vb vk (booksW s 3) S g vp (.slice ap S.packs.length cp) vmd vbt vmk wr ∧ wr.ownsRow wc.heap.size 4 1 (.slice aB S.packs.length cB) S.packs.length (befC S S.packs.length)) := ⟨HWr.out, HBV.out⟩
    have HP9 : Hid (wr.cell? ⟨Wd, 0, none⟩ = some (.pointer (some ⟨R, 0, none⟩)) ∧ wr.cell? ⟨Wd, 2, none⟩ = some (.int .i64 S.at_) ∧ Wd < wr.heap.size) := ⟨blk_cell (o := 0) HWr.out.blk rfl, blk_cell (o := 2) HWr.out.blk rfl, cl⟩
    have HP0 : Hid (∀ W w2 : World, (fun W => W.cell? ⟨Wd, 0, none⟩ = some (.pointer (some ⟨R, 0, none⟩)) ∧ W.cell? ⟨Wd, 2, none⟩ = some (.int .i64 S.at_) ∧ Wd < W.heap.size) W → Below W.heap.size W w2 → (fun W => W.cell? ⟨Wd, 0, none⟩ = some (.pointer (some ⟨R, 0, none⟩)) ∧ W.cell? ⟨Wd, 2, none⟩ = some (.int .i64 S.at_) ∧ Wd < W.heap.size) w2) := fun W w2 hW hb => ⟨cell_step hW.1 hb, cell_step hW.2.1 hb, Nat.lt_of_lt_of_le hW.2.2 hb.size⟩
    have HC0 : Hid (∀ W w2 : World, (fun W => WdAt w Wd R vb vk (booksW s 3) S g vp (.slice ap S.packs.length cp) vmd vbt vmk W ∧ W.ownsRow wc.heap.size 4 1 (.slice aB S.packs.length cB) S.packs.length (befC S S.packs.length)) W → Below W.heap.size W w2 → (fun W => WdAt w Wd R vb vk (booksW s 3) S g vp (.slice ap S.packs.length cp) vmd vbt vmk W ∧ W.ownsRow wc.heap.size 4 1 (.slice aB S.packs.length cB) S.packs.length (befC S S.packs.length)) w2) := fun W w2 hW hb => ⟨hW.1.step hb, own_step hW.2 hb⟩
    have CRC : Hid (∀ W, (fun W => WdAt w Wd R vb vk (booksW s 3) S g vp (.slice ap S.packs.length cp) vmd vbt vmk W ∧ W.ownsRow wc.heap.size 4 1 (.slice aB S.packs.length cB) S.packs.length (befC S S.packs.length)) W → Calls Tryz.prog 19 #[.pointer (some ⟨R, 0, none⟩), .int .i64 0, .int .i64 S.at_, .string (batchP b), .int .i64 0, .int .i64 (u : Int), .string fireT] W fun en w' => ∃ v', en = .returned (tup0 v') ∧ (fun W => W.cell? ⟨Wd, 0, none⟩ = some (.pointer (some ⟨R, 0, none⟩)) ∧ W.cell? ⟨Wd, 2, none⟩ = some (.int .i64 S.at_) ∧ Wd < W.heap.size) w' ∧ (fun v' W => WdE w Wd R vb vk (booksW s 3) { S with a := recL S b u } W ∧ W.ownsRow wc.heap.size 4 1 (.slice aB S.packs.length cB) S.packs.length (befC S S.packs.length) ∧ W.ownsRow w.heap.size 9 1 v' (affL S b u).length (nmC S b u)) v' w') := fun W hW => by
     have hc9 := Recall_any hW.1.v HOW.out.ok (gstep HG.out hW.1.bel) 0 S.at_ (batchP b) 0 (u : Int) fireT ⟨by have := (nameB_size (batchP_ok b)).2; omega, by decide⟩
     rw [HCD.out] at hc9
     refine hc9.mono fun en w9 q9 => ?_
     obtain ⟨v9, e9, ho9, hN9⟩ := q9
     obtain ⟨h1, h2⟩ := hW.1.recd hN9 hW.2
     refine ⟨v9, e9, ?_, h1, h2, ?_⟩
     ·obtain ⟨g9, vp9, k1, k2, k3, k4, h9⟩ := h1
      exact ⟨blk_cell (o := 0) h9.blk rfl, blk_cell (o := 2) h9.blk rfl, blk_lt h9.blk⟩
     ·rw [List.length_map] at ho9
      exact own_low ho9 hW.1.bel.size
    have hw0 : IntKind.i64.wrap (u : Int) = (u : Int) := Go.IntWalk.i64_in _ ⟨by omega, by have := HUB.out.2; omega⟩
    clear hc HWr HBV
    go_upto_region 13 with fail
    clear c3 cl
    refine region_all 18 5 248 [(9, 78), (12, 81), (13, 68), (14, 82), (16, 14)] [(none, []), (none, []), (none, []), (none, []), (none, []), (none, []), (none, []), (none, []), (none, []), (some 0, []), (none, []), (none, []), (some 1, [0]), (some 2, [1]), (some 3, [2]), (none, [2]), (some 4, [3]), (none, [])] [(69, (.pointer (some ⟨Wd, 0, none⟩))), (70, (.pointer (some ⟨Wd, 0, none⟩))), (71, (.pointer (some ⟨Wd, 0, none⟩))), (72, (.pointer (some ⟨R, 0, none⟩))), (73, (.pointer (some ⟨Wd, 0, none⟩))), (74, (.pointer (some ⟨Wd, 0, none⟩))), (75, (.pointer (some ⟨Wd, 2, none⟩))), (76, (.int .i64 S.at_)), (77, (.int .u8 (b : Int))), (79, (.int .u8 (u : Int))), (80, (.int .i64 (u : Int))), (83, (.int .i64 0)), (15, (.int .i64 0))] (fun bsE vsE W => RnV (fun W => W.cell? ⟨Wd, 0, none⟩ = some (.pointer (some ⟨R, 0, none⟩)) ∧ W.cell? ⟨Wd, 2, none⟩ = some (.int .i64 S.at_) ∧ Wd < W.heap.size) (fun W => WdAt w Wd R vb vk (booksW s 3) S g vp (.slice ap S.packs.length cp) vmd vbt vmk W ∧ W.ownsRow wc.heap.size 4 1 (.slice aB S.packs.length cB) S.packs.length (befC S S.packs.length)) (fun v' W => WdE w Wd R vb vk (booksW s 3) { S with a := recL S b u } W ∧ W.ownsRow wc.heap.size 4 1 (.slice aB S.packs.length cB) S.packs.length (befC S S.packs.length) ∧ W.ownsRow w.heap.size 9 1 v' (affL S b u).length (nmC S b u)) (.string (batchP b)) tup0 (bsE.getD 0 false) (bsE.getD 1 false) (bsE.getD 2 false) (bsE.getD 3 false) (bsE.getD 4 false) ((vsE.getD 0 undef)) ((vsE.getD 1 undef)) ((vsE.getD 2 undef)) ((vsE.getD 3 undef)) ((vsE.getD 4 undef)) W) (by kernel_rfl) (by kernel_rfl) rfl rfl (by kernel_rfl) (by rfl) ?h0 ?each ?done
    case h0 =>
     intro vsE hlv
     obtain ⟨v0, v1, v2, v3, v4, rfl⟩ := ll5 hlv
     exact RnV.start (HP0.out _ _ HP9.out (Below.refl _ _).drew) (HC0.out _ _ HS0.out (Below.refl _ _).drew)
    case each =>
     simp only [AllE]
     refine ⟨⟨69, (.pointer (some ⟨Wd, 0, none⟩)), rfl, by kernel_rfl, ?_⟩, ⟨70, (.pointer (some ⟨Wd, 0, none⟩)), rfl, by kernel_rfl, ?_⟩, ⟨71, (.pointer (some ⟨Wd, 0, none⟩)), rfl, by kernel_rfl, ?_⟩, ⟨72, (.pointer (some ⟨R, 0, none⟩)), rfl, by kernel_rfl, ?_⟩, ⟨73, (.pointer (some ⟨Wd, 0, none⟩)), rfl, by kernel_rfl, ?_⟩, ⟨74, (.pointer (some ⟨Wd, 0, none⟩)), rfl, by kernel_rfl, ?_⟩, ⟨75, (.pointer (some ⟨Wd, 2, none⟩)), rfl, by kernel_rfl, ?_⟩, ⟨76, (.int .i64 S.at_), rfl, by kernel_rfl, ?_⟩, ⟨77, (.int .u8 (b : Int)), rfl, by kernel_rfl, ?_⟩, Or.inl ⟨78, rfl, ?q1_9⟩, ⟨79, (.int .u8 (u : Int)), rfl, by kernel_rfl, ?_⟩, ⟨80, (.int .i64 (u : Int)), rfl, by kernel_rfl, ?_⟩, Or.inl ⟨81, rfl, ?q1_12⟩, Or.inl ⟨68, rfl, ?q1_13⟩, Or.inl ⟨82, rfl, ?q1_14⟩, ⟨83, (.int .i64 0), rfl, by kernel_rfl, ?q1_15⟩, Or.inl ⟨14, rfl, ?q1_16⟩, ⟨15, (.int .i64 0), rfl, by kernel_rfl, ?_⟩, trivial⟩
     case q1_9 =>
      intro bsE vsE W hlb hlv hnd hbk h
      obtain ⟨b0, b1, b2, b3, b4, rfl⟩ := ll5 hlb
      obtain ⟨v0, v1, v2, v3, v4, rfl⟩ := ll5 hlv
      obtain rfl : b0 = false := hbk
      replace h : RnV (fun W => W.cell? ⟨Wd, 0, none⟩ = some (.pointer (some ⟨R, 0, none⟩)) ∧ W.cell? ⟨Wd, 2, none⟩ = some (.int .i64 S.at_) ∧ Wd < W.heap.size) (fun W => WdAt w Wd R vb vk (booksW s 3) S g vp (.slice ap S.packs.length cp) vmd vbt vmk W ∧ W.ownsRow wc.heap.size 4 1 (.slice aB S.packs.length cB) S.packs.length (befC S S.packs.length)) (fun v' W => WdE w Wd R vb vk (booksW s 3) { S with a := recL S b u } W ∧ W.ownsRow wc.heap.size 4 1 (.slice aB S.packs.length cB) S.packs.length (befC S S.packs.length) ∧ W.ownsRow w.heap.size 9 1 v' (affL S b u).length (nmC S b u)) (.string (batchP b)) tup0 false b1 b2 b3 b4 (v0) (v1) (v2) (v3) (v4) W := h
      clear hnd
      have HST := Lib.hid h
      skip
      intro K Q hK
      simp only [putE, updAll, Act.put, sl1, sl2, sl3, sl4] at hK ⊢
      go_wp2_with (go_at_call 20; refine (batch_any b HUB.out.1 _).mono ?_; rintro en w9 ⟨rfl, hb9⟩)
      all_goals (have hm := h.mk0 (HP0.out _ _ h.p hb9) (HC0.out _ _ (h.a (h.n0 rfl)) hb9))
      all_goals (first | exact hK _ _ hm | exact hm)
     case q1_12 =>
      intro bsE vsE W hlb hlv hnd hbk h
      obtain ⟨b0, b1, b2, b3, b4, rfl⟩ := ll5 hlb
      obtain ⟨v0, v1, v2, v3, v4, rfl⟩ := ll5 hlv
      obtain rfl : b0 = true := hnd 0 (by simp)
      obtain rfl : b1 = false := hbk
      replace h : RnV (fun W => W.cell? ⟨Wd, 0, none⟩ = some (.pointer (some ⟨R, 0, none⟩)) ∧ W.cell? ⟨Wd, 2, none⟩ = some (.int .i64 S.at_) ∧ Wd < W.heap.size) (fun W => WdAt w Wd R vb vk (booksW s 3) S g vp (.slice ap S.packs.length cp) vmd vbt vmk W ∧ W.ownsRow wc.heap.size 4 1 (.slice aB S.packs.length cB) S.packs.length (befC S S.packs.length)) (fun v' W => WdE w Wd R vb vk (booksW s 3) { S with a := recL S b u } W ∧ W.ownsRow wc.heap.size 4 1 (.slice aB S.packs.length cB) S.packs.length (befC S S.packs.length) ∧ W.ownsRow w.heap.size 9 1 v' (affL S b u).length (nmC S b u)) (.string (batchP b)) tup0 true false b2 b3 b4 (v0) (v1) (v2) (v3) (v4) W := h
      clear hnd
      have HST := Lib.hid h
      obtain rfl := h.y rfl; have hs9 := h.a rfl
      intro K Q hK
      simp only [putE, updAll, Act.put, sl1, sl2, sl3, sl4] at hK ⊢
      go_wp2_with (go_at_call 19; refine (CRC.out _ hs9).mono ?_; rintro en w9 ⟨v', rfl, hp9, ha9⟩)
      all_goals (have hm := h.mk1 (v' := v') hp9 ha9)
      all_goals (first | exact hK _ _ hm | exact hm)
     case q1_13 =>
      intro bsE vsE W hlb hlv hnd hbk h
      obtain ⟨b0, b1, b2, b3, b4, rfl⟩ := ll5 hlb
      obtain ⟨v0, v1, v2, v3, v4, rfl⟩ := ll5 hlv
      obtain rfl : b1 = true := hnd 1 (by simp)
      obtain rfl : b2 = false := hbk
      replace h : RnV (fun W => W.cell? ⟨Wd, 0, none⟩ = some (.pointer (some ⟨R, 0, none⟩)) ∧ W.cell? ⟨Wd, 2, none⟩ = some (.int .i64 S.at_) ∧ Wd < W.heap.size) (fun W => WdAt w Wd R vb vk (booksW s 3) S g vp (.slice ap S.packs.length cp) vmd vbt vmk W ∧ W.ownsRow wc.heap.size 4 1 (.slice aB S.packs.length cB) S.packs.length (befC S S.packs.length)) (fun v' W => WdE w Wd R vb vk (booksW s 3) { S with a := recL S b u } W ∧ W.ownsRow wc.heap.size 4 1 (.slice aB S.packs.length cB) S.packs.length (befC S S.packs.length) ∧ W.ownsRow w.heap.size 9 1 v' (affL S b u).length (nmC S b u)) (.string (batchP b)) tup0 b0 true false b3 b4 (v0) (v1) (v2) (v3) (v4) W := h
      clear hnd
      have HST := Lib.hid h
      obtain ⟨vt, rfl⟩ := h.val1; have hm := h.mk2
      intro K Q hK
      simp only [putE, updAll, Act.put, sl1, sl2, sl3, sl4] at hK ⊢
      go_wp2_with fail
      all_goals (first | exact hK _ _ hm | exact hm)
     case q1_14 =>
      intro bsE vsE W hlb hlv hnd hbk h
      obtain ⟨b0, b1, b2, b3, b4, rfl⟩ := ll5 hlb
      obtain ⟨v0, v1, v2, v3, v4, rfl⟩ := ll5 hlv
      obtain rfl : b2 = true := hnd 2 (by simp)
      obtain rfl : b3 = false := hbk
      replace h : RnV (fun W => W.cell? ⟨Wd, 0, none⟩ = some (.pointer (some ⟨R, 0, none⟩)) ∧ W.cell? ⟨Wd, 2, none⟩ = some (.int .i64 S.at_) ∧ Wd < W.heap.size) (fun W => WdAt w Wd R vb vk (booksW s 3) S g vp (.slice ap S.packs.length cp) vmd vbt vmk W ∧ W.ownsRow wc.heap.size 4 1 (.slice aB S.packs.length cB) S.packs.length (befC S S.packs.length)) (fun v' W => WdE w Wd R vb vk (booksW s 3) { S with a := recL S b u } W ∧ W.ownsRow wc.heap.size 4 1 (.slice aB S.packs.length cB) S.packs.length (befC S S.packs.length) ∧ W.ownsRow w.heap.size 9 1 v' (affL S b u).length (nmC S b u)) (.string (batchP b)) tup0 b0 b1 true false b4 (v0) (v1) (v2) (v3) (v4) W := h
      clear hnd
      have HST := Lib.hid h
      obtain ⟨vt, rfl⟩ := h.val2; have hm := h.mk3 tup0_inj; unfold tup0
      intro K Q hK
      simp only [putE, updAll, Act.put, sl1, sl2, sl3, sl4] at hK ⊢
      go_wp2_with fail
      all_goals (first | exact hK _ _ hm | exact hm)
     case q1_15 =>
      intro bsE vsE W hlb hlv hnd h
      obtain ⟨b0, b1, b2, b3, b4, rfl⟩ := ll5 hlb
      obtain ⟨v0, v1, v2, v3, v4, rfl⟩ := ll5 hlv
      obtain rfl : b2 = true := hnd 2 (by simp)
      replace h : RnV (fun W => W.cell? ⟨Wd, 0, none⟩ = some (.pointer (some ⟨R, 0, none⟩)) ∧ W.cell? ⟨Wd, 2, none⟩ = some (.int .i64 S.at_) ∧ Wd < W.heap.size) (fun W => WdAt w Wd R vb vk (booksW s 3) S g vp (.slice ap S.packs.length cp) vmd vbt vmk W ∧ W.ownsRow wc.heap.size 4 1 (.slice aB S.packs.length cB) S.packs.length (befC S S.packs.length)) (fun v' W => WdE w Wd R vb vk (booksW s 3) { S with a := recL S b u } W ∧ W.ownsRow wc.heap.size 4 1 (.slice aB S.packs.length cB) S.packs.length (befC S S.packs.length) ∧ W.ownsRow w.heap.size 9 1 v' (affL S b u).length (nmC S b u)) (.string (batchP b)) tup0 b0 b1 true b3 b4 (v0) (v1) (v2) (v3) (v4) W := h
      clear hnd
      have HST := Lib.hid h
      obtain ⟨vt, rfl⟩ := h.val2; unfold tup0
      intro K Q hK
      simp only [putE, updAll, Act.put, sl1, sl2, sl3, sl4] at hK ⊢
      go_wp2_with (fail)
      all_goals (first | exact hK _ h | exact h)
     case q1_16 =>
      intro bsE vsE W hlb hlv hnd hbk h
      obtain ⟨b0, b1, b2, b3, b4, rfl⟩ := ll5 hlb
      obtain ⟨v0, v1, v2, v3, v4, rfl⟩ := ll5 hlv
      obtain rfl : b3 = true := hnd 3 (by simp)
      obtain rfl : b4 = false := hbk
      replace h : RnV (fun W => W.cell? ⟨Wd, 0, none⟩ = some (.pointer (some ⟨R, 0, none⟩)) ∧ W.cell? ⟨Wd, 2, none⟩ = some (.int .i64 S.at_) ∧ Wd < W.heap.size) (fun W => WdAt w Wd R vb vk (booksW s 3) S g vp (.slice ap S.packs.length cp) vmd vbt vmk W ∧ W.ownsRow wc.heap.size 4 1 (.slice aB S.packs.length cB) S.packs.length (befC S S.packs.length)) (fun v' W => WdE w Wd R vb vk (booksW s 3) { S with a := recL S b u } W ∧ W.ownsRow wc.heap.size 4 1 (.slice aB S.packs.length cB) S.packs.length (befC S S.packs.length) ∧ W.ownsRow w.heap.size 9 1 v' (affL S b u).length (nmC S b u)) (.string (batchP b)) tup0 b0 b1 b2 true false (v0) (v1) (v2) (v3) (v4) W := h
      clear hnd
      have HST := Lib.hid h
      have hm := h.mk4
      intro K Q hK
      simp only [putE, updAll, Act.put, sl1, sl2, sl3, sl4] at hK ⊢
      go_wp2_with fail
      all_goals (first | exact hK _ _ hm | exact hm)
     all_goals
      intro bsE vsE W hlb hlv hnd h
      obtain ⟨b0, b1, b2, b3, b4, rfl⟩ := ll5 hlb
      obtain ⟨v0, v1, v2, v3, v4, rfl⟩ := ll5 hlv
      replace h : RnV (fun W => W.cell? ⟨Wd, 0, none⟩ = some (.pointer (some ⟨R, 0, none⟩)) ∧ W.cell? ⟨Wd, 2, none⟩ = some (.int .i64 S.at_) ∧ Wd < W.heap.size) (fun W => WdAt w Wd R vb vk (booksW s 3) S g vp (.slice ap S.packs.length cp) vmd vbt vmk W ∧ W.ownsRow wc.heap.size 4 1 (.slice aB S.packs.length cB) S.packs.length (befC S S.packs.length)) (fun v' W => WdE w Wd R vb vk (booksW s 3) { S with a := recL S b u } W ∧ W.ownsRow wc.heap.size 4 1 (.slice aB S.packs.length cB) S.packs.length (befC S S.packs.length) ∧ W.ownsRow w.heap.size 9 1 v' (affL S b u).length (nmC S b u)) (.string (batchP b)) tup0 b0 b1 b2 b3 b4 (v0) (v1) (v2) (v3) (v4) W := h
      clear hnd
      have HST := Lib.hid h
      obtain ⟨c0, c2, cl⟩ := h.p
      intro K Q hK
      simp only [putE, updAll, Act.put, sl1, sl2, sl3, sl4] at hK ⊢
      go_wp2_with (fail)
      all_goals (first | exact hK _ h | exact h)
    case done =>
     intro vsE W hlv h
     obtain ⟨v0, v1, v2, v3, v4, rfl⟩ := ll5 hlv
     replace h : RnV (fun W => W.cell? ⟨Wd, 0, none⟩ = some (.pointer (some ⟨R, 0, none⟩)) ∧ W.cell? ⟨Wd, 2, none⟩ = some (.int .i64 S.at_) ∧ Wd < W.heap.size) (fun W => WdAt w Wd R vb vk (booksW s 3) S g vp (.slice ap S.packs.length cp) vmd vbt vmk W ∧ W.ownsRow wc.heap.size 4 1 (.slice aB S.packs.length cB) S.packs.length (befC S S.packs.length)) (fun v' W => WdE w Wd R vb vk (booksW s 3) { S with a := recL S b u } W ∧ W.ownsRow wc.heap.size 4 1 (.slice aB S.packs.length cB) S.packs.length (befC S S.packs.length) ∧ W.ownsRow w.heap.size 9 1 v' (affL S b u).length (nmC S b u)) (.string (batchP b)) tup0 true true true true true (v0) (v1) (v2) (v3) (v4) W := h
     have HST := Lib.hid h
     obtain ⟨-, rfl, rfl, rfl, hA9⟩ := h.fin
     clear h HST
     simp only [putE, updAll, Act.put, sl1, sl2, sl3, sl4]
     obtain ⟨hE9, hBR9, hNR9⟩ := hA9
     obtain ⟨aN, cN, evN⟩ := row_slice hNR9
     subst evN
     obtain ⟨g2, vp2, vpk2, vmd2, vbt2, vmk2, hW2⟩ := hE9
     have hpk2 : W.ownsRow w.heap.size 9 1 vpk2 S.packs.length (strC S.packs) := hW2.pk
     have hbt2 : W.ownsRow w.heap.size 9 1 vbt2 S.bts.length (strC S.bts) := hW2.bt
     have htm2 : W.ownsRow w.heap.size 2 1 vmk2 S.mds.length (S.mds.map (Value.int .i64)) := hW2.tm
     obtain ⟨ap2, cp2, evp2⟩ := row_slice hpk2
     obtain ⟨ab2, cb2, evb2⟩ := row_slice hbt2
     obtain ⟨at2, ct2, evt2⟩ := row_slice htm2
     subst evp2 evb2 evt2
     have H2 := Lib.hid hW2
     have HPK := Lib.hid hpk2
     have HBT := Lib.hid hbt2
     have HTM := Lib.hid htm2
     have HBR := Lib.hid hBR9
     have HNR := Lib.hid hNR9
     generalize W = wx at *
     clear hW2 hpk2 hbt2 htm2 hBR9 hNR9 H0 HP0 HC0 CRC HS0
     go_wp2_with fail
     go_loopw [16, 17] (fun ax kx wr => ∃ k : Nat, k ≤ S.packs.length ∧ kx = .int .i64 k ∧ ax = .int .i64 (affN S b u k : Nat) ∧ Hid (Below wx.heap.size wx wr)) (fun _ kx _ => S.packs.length - (intOf kx).toNat)
     case atStart => exact ⟨0, Nat.zero_le _, rfl, rfl, Below.refl _ _⟩
     case round =>
      obtain ⟨k, hk, rfl, rfl, HB⟩ := hrel
      have HWr := Lib.hid (H2.out.step HB.out)
      have c3 : wr.cell? ⟨Wd, 3, none⟩ = some (.slice ap2 S.packs.length cp2) := blk_cell (o := 3) HWr.out.blk rfl
      have cl := blk_lt HWr.out.blk
      by_cases hc : k < S.packs.length
      ·have c1 : (k : Int) < S.packs.length := by omega
       have k0 : (0 : Int) ≤ k := by omega
       obtain ⟨q, hq⟩ : ∃ q, S.packs[k]? = some q := ⟨S.packs[k], List.getElem?_eq_getElem hc⟩
       obtain ⟨es, hp, hf⟩ := HOW.out.at hq
       obtain ⟨es2, hp2, hf2⟩ := HOW2.out.at hq
       obtain ⟨r9, g1, g2, g3, g4⟩ := recs_pack (t := S.at_) (n := 0) (affL S b u) k (q, es) hp
       obtain rfl : (q, es2) = r9 := Option.some.inj (hp2.symm.trans g1)
       have HF2 : Hid (fireP (evsOf es2) = (fireP (evsOf es) || decide (k ∈ affL S b u))) := g4
       have CE : Hid (∀ W, Below wr.heap.size wr W → Calls Tryz.prog 22 #[.pointer (some ⟨Wd, 0, none⟩), .string q] W fun en w' => ∃ v', en = .returned v' ∧ w'.ownsRow W.heap.size 29 6 v' es2.length (flatE (evsOf es2)) ∧ Below W.heap.size W w') := fun W hW => events_any ⟨_, _, _, _, _, _, HWr.out.step hW⟩ HOW2.out.ok q (q, es2) (by rw [hf2]; exact hp2)
       have CM : Hid (∀ W, Below wr.heap.size wr W → ∀ {a9 : Option Addr} (c9 : Nat), EvAt a9 (evsOf es2) W → Calls Tryz.prog 21 #[.string q, .slice a9 (evsOf es2).length c9] W fun en w' => ∃ v', en = .returned (.tuple #[v', .int .i64 0]) ∧ SRow v' (lf (q, es)).ms w' ∧ Below W.heap.size W w') := fun W hW a9 c9 hE => by
        rw [← g3]
        exact Modules_any c9 q hE (gstep HG.out (HWr.out.step hW).bel) (HOW2.out.ok.legA (List.mem_of_getElem? hp2))
       obtain ⟨pb, epb, hpb, hpc⟩ := row_cells (b := 0) (c := cp2) HPK.out (by omega)
       obtain rfl := epb
       obtain ⟨qb, eqb, hqb, hqc⟩ := row_cells (b := 0) (c := cb2) HBT.out (by have := HOW.out.bl; omega)
       obtain rfl := eqb
       obtain ⟨tb, etb, htb, htc⟩ := row_cells (b := 0) (c := ct2) HTM.out (by have := HOW.out.tl; omega)
       obtain rfl := etb
       obtain ⟨zb, ezb, hzb, hzc⟩ := row_cells (b := 0) (c := cB) HBR.out (by omega)
       obtain rfl := ezb
       have HPC := Lib.hid (And.intro hpb hpc)
       have HQC := Lib.hid (And.intro hqb hqc)
       have HTC := Lib.hid (And.intro htb htc)
       have HBC := Lib.hid (And.intro hzb hzc)
       have gk := cell_step (hpc k (.string q) (by unfold strC; rw [List.getElem?_map, hq]; rfl)) HB.out
       have hpb := Nat.lt_of_lt_of_le hpb HB.out.size
       have HF := Lib.hid (And.intro c3 (And.intro cl (And.intro gk hpb)))
       have HPE := Lib.hid hp
       have hml9 : (lf (q, es)).ms.length ≤ 240 := by
        obtain ⟨r, hr⟩ := preM_part hp
        have h1 := HMW.out.pm.length_eq
        rw [hr, List.length_append, List.length_append] at h1
        have := HOW.out.ml
        omega
       have HQ := Lib.hid hq
       have HPF2 : Hid ((recL S b u).ps[findA q (recL S b u)]? = some (q, es2)) := by show _ = _; rw [hf2]; exact hp2
       clear hpc hq hp hf hc g1 g3 g4 hp2 hf2 hqb hqc htb htc hzb hzc
       go_upto_region 20 with fail
       refine reg20 HF CE CM k0 c1 ?_
       intro x95 x96 x97 x98 x99 x100 x101 x102 x103 x104 x105 x106 x107 x108 x109 x110 x111 x112 x113 x114 v' W hb9 hs9
       have HBW : Hid (Below wx.heap.size wx W) := bStep HB.out hb9
       obtain ⟨av, cv, ev9, hs8⟩ := SRow.cells hs9
       subst ev9
       have HSR := Lib.hid hs8
       clear hb9 hs8 hs9 HB HWr CE CM HF c3 cl gk hpb
       generalize hML : (lf (q, es)).ms.length = ml at *
       have HML := Lib.hid hML
       clear hML
       go_wp2_with fail
       go_loopw [20, 21] (fun hx jx wv => ∃ j : Nat, j ≤ ml ∧ jx = .int .i64 j ∧ hx = .bool (((lf (q, es)).ms.take j).any (hitL S b u)) ∧ Hid (Below W.heap.size W wv)) (fun _ jx _ => ml - (intOf jx).toNat)
       case atStart => exact ⟨0, Nat.zero_le _, rfl, rfl, Below.refl _ _⟩
       case round =>
        obtain ⟨j, hj9, rfl, rfl, HV⟩ := hrel
        by_cases hd : j < ml
        ·have d1 : (j : Int) < ml := by omega
         have d0 : (0 : Int) ≤ j := by omega
         obtain ⟨m, hm⟩ : ∃ m, (lf (q, es)).ms[j]? = some m := ⟨_, List.getElem?_eq_getElem (by rw [HML.out]; exact hd)⟩
         obtain ⟨mb, mo, rfl, hmb, hmc⟩ := HSR.out (by intro e; rw [e] at hm; cases hm)
         have HGM : Hid (W.cell? ⟨mb, mo + j, none⟩ = some (.string m) ∧ mb < W.heap.size) := ⟨hmc j m hm, hmb⟩
         obtain ⟨k0, j0, t9, bt, hk0, hj0, hme, hbt, htm, hhit⟩ := mod_of (b := b) (u := u) HOW.out HMW.out HRW.out HPE.out (List.mem_of_getElem? hm)
         obtain ⟨hm0, hhm⟩ : ∃ hm0, (eqT bt (batchP b) && decide (t9 ≤ (u : Int))) = hm0 := ⟨_, rfl⟩
         have HTK : Hid (((lf (q, es)).ms.take (j + 1)).any (hitL S b u) = (((lf (q, es)).ms.take j).any (hitL S b u) || hm0)) := by show _ = _; rw [take_snoc hm, List.any_append, ← hhm, ← hhit]; simp
         have HM0 : Hid (hm0 = (eqT bt (batchP b) && decide (t9 ≤ (u : Int)))) := hhm.symm
         have HK0 := Lib.hid hk0
         have HBT0 := Lib.hid (And.intro hbt htm)
         have zsz : m.size = 5 := by rw [hme]; exact digN_size k0 j0
         have zcut : ∀ W, (Instr.slice 9 (.string m) none (some (.int .i64 3)) none).run Tryz.prog W = .ok (.string (nameP k0)) W := by rw [hme]; exact digN_cut k0 j0
         have zcol : ∀ W, (Instr.index 9 (.string m) (.int .i64 3)).run Tryz.prog W = .ok (.int .u8 58) W := by rw [hme]; exact digN_col k0 j0
         obtain ⟨n0, hn0⟩ : ∃ n0, nameP k0 = n0 := ⟨_, rfl⟩
         rw [hn0] at zcut
         have HN0 := Lib.hid hn0
         generalize ((lf (q, es)).ms.take j).any (hitL S b u) = h0 at *
         clear hm hhit hmc hd hme hbt htm hhm hk0 hmb hj0 hn0
         go_wp2_with fail
         go_loopw [20, 22] (fun hx ox wz => ∃ o : Nat, o ≤ S.packs.length ∧ ox = .int .i64 o ∧ hx = .bool (h0 || (decide (k0 < o) && hm0)) ∧ Hid (Below W.heap.size W wz)) (fun _ ox _ => S.packs.length - (intOf ox).toNat)
         case atStart => exact ⟨0, Nat.zero_le _, rfl, by simp, HV⟩
         case round =>
          obtain ⟨o, ho9, rfl, rfl, HZ⟩ := hrel
          have HWz := Lib.hid (H2.out.step (bStep HBW.out HZ.out))
          have c3 : wr.cell? ⟨Wd, 3, none⟩ = some (.slice (some ⟨pb, 0, none⟩) S.packs.length cp2) := blk_cell (o := 3) HWz.out.blk rfl
          have c5 : wr.cell? ⟨Wd, 5, none⟩ = some (.slice (some ⟨qb, 0, none⟩) S.bts.length cb2) := blk_cell (o := 5) HWz.out.blk rfl
          have c6 : wr.cell? ⟨Wd, 6, none⟩ = some (.slice (some ⟨tb, 0, none⟩) S.mds.length ct2) := blk_cell (o := 6) HWz.out.blk rfl
          have cl := blk_lt HWz.out.blk
          by_cases hd : o < S.packs.length
          ·have o1 : (o : Int) < S.packs.length := by omega
           have o0 : (0 : Int) ≤ o := by omega
           have p1 : (o : Int) < S.bts.length := by have := HOW.out.bl; omega
           have q1 : (o : Int) < S.mds.length := by have := HOW.out.tl; omega
           have hq9 : S.packs[o]? = some (nameP o) := by have h9 := List.getElem?_eq_getElem hd; rw [h9, HOW.out.nm o _ h9]
           obtain ⟨bt9, hbt9⟩ : ∃ bt9, S.bts[o]? = some bt9 := ⟨_, List.getElem?_eq_getElem (by have := HOW.out.bl; omega)⟩
           obtain ⟨tm9, htm9⟩ : ∃ tm9, S.mds[o]? = some tm9 := ⟨_, List.getElem?_eq_getElem (by have := HOW.out.tl; omega)⟩
           have hbz : Below wx.heap.size wx wr := bStep HBW.out HZ.out
           have gp := cell_step (HPC.out.2 o (.string (nameP o)) (by unfold strC; rw [List.getElem?_map, hq9]; rfl)) hbz
           have gb := cell_step (HQC.out.2 o (.string bt9) (by unfold strC; rw [List.getElem?_map, hbt9]; rfl)) hbz
           have gt := cell_step (HTC.out.2 o (.int .i64 tm9) (by rw [List.getElem?_map, htm9]; rfl)) hbz
           have gm2 := cell_step HGM.out.1 HZ.out
           have lm := Nat.lt_of_lt_of_le HGM.out.2 HZ.out.size
           have lp := Nat.lt_of_lt_of_le HPC.out.1 hbz.size
           have lb := Nat.lt_of_lt_of_le HQC.out.1 hbz.size
           have lt := Nat.lt_of_lt_of_le HTC.out.1 hbz.size
           have zq := nameP_size o
           have EQ0 := name_eq (m := k0) (n := o) (by have := HOW.out.np; have := HK0.out; omega) (by have := HOW.out.np; omega)
           rw [HN0.out] at EQ0
           have EQN := Lib.hid EQ0
           clear EQ0
           have HQB : Hid (o = k0 → bt9 = bt ∧ tm9 = t9) := fun e => by subst e; exact ⟨Option.some.inj (hbt9.symm.trans HBT0.out.1), Option.some.inj (htm9.symm.trans HBT0.out.2)⟩
           generalize nameP o = q9 at *
           obtain ⟨hv9, hhv⟩ : ∃ hv9, (h0 || (decide (k0 < o) && hm0)) = hv9 := ⟨_, rfl⟩
           rw [hhv]
           have HHV := Lib.hid hhv
           clear hhv hq9 hbt9 htm9 hbz hd
           go_upto_region 31 with fail
           by_cases hko : o = k0
           ·obtain ⟨e1, e2⟩ := HQB.out hko
            have z1 : (n0.toList == q9.toList) = true := by rw [EQN.out]; exact decide_eq_true hko.symm
            have HKO := Lib.hid hko
            clear hko EQN HQB
            cases hz2 : eqT bt (batchP b) with
            | false =>
             have z2 : (bt9.toList == (batchP b).toList) = false := by rw [e1]; exact hz2
             have HVN : Hid ((h0 || (decide (k0 < o + 1) && hm0)) = hv9) := by show _ = _; rw [← HHV.out, HM0.out, hz2]; simp
             clear e1 e2 hz2
             refine reg31_b HUB.out.1 c3 c5 c6 gm2 gp gb gt cl lm lp lb lt d0 d1 o0 o1 p1 q1 zsz zcut zcol hw0 z1 z2 ?_
             intro x140 x141 x142 x143 x144 x145 x146 x147 x148 x149 x150 x151 x152 x153 x154 x155 x156 x157 x158 x159 x160 x161 x162 x163 x164 x165 x166 x167 x168 x169 x170 x171 x172 x173 x174 x175 x176 x177 x178 x179 x180 x181 x182 x183 x184 x185 x186 x187 x188 x189 x190 x191 x192 x193 x194 W4 hbn
             have HZ2 := Lib.hid (bStep HZ.out hbn)
             clear c3 c5 c6 gm2 gp gb gt cl lm lp lb lt HZ hbn HWz
             go_wp2_with fail
             exact ⟨⟨o + 1, by omega, by push_cast; rfl, by rw [HVN.out], HZ2⟩, by simp [intOf]; omega⟩
            | true =>
             have z2 : (bt9.toList == (batchP b).toList) = true := by rw [e1]; exact hz2
             by_cases hle : tm9 ≤ (u : Int)
             ·have HVN : Hid ((h0 || (decide (k0 < o + 1) && hm0)) = true) := by show _ = _; rw [HM0.out, hz2, ← e2, decide_eq_true hle, decide_eq_true (show k0 < o + 1 by have := HKO.out; omega)]; simp
              clear e1 e2 hz2
              refine reg31_d HUB.out.1 c3 c5 c6 gm2 gp gb gt cl lm lp lb lt d0 d1 o0 o1 p1 q1 zsz zcut zcol hw0 z1 z2 hle ?_
              intro x140 x141 x142 x143 x144 x145 x146 x147 x148 x149 x150 x151 x152 x153 x154 x155 x156 x157 x158 x159 x160 x161 x162 x163 x164 x165 x166 x167 x168 x169 x170 x171 x172 x173 x174 x175 x176 x177 x178 x179 x180 x181 x182 x183 x184 x185 x186 x187 x188 x189 x190 x191 x192 x193 x194 W4 hbn
              have HZ2 := Lib.hid (bStep HZ.out hbn)
              clear c3 c5 c6 gm2 gp gb gt cl lm lp lb lt HZ hbn HWz
              go_wp2_with fail
              exact ⟨⟨o + 1, by omega, by push_cast; rfl, by rw [HVN.out], HZ2⟩, by simp [intOf]; omega⟩
             ·have HVN : Hid ((h0 || (decide (k0 < o + 1) && hm0)) = hv9) := by show _ = _; rw [← HHV.out, HM0.out, ← e2, decide_eq_false hle]; simp
              clear e1 e2 hz2
              refine reg31_c HUB.out.1 c3 c5 c6 gm2 gp gb gt cl lm lp lb lt d0 d1 o0 o1 p1 q1 zsz zcut zcol hw0 z1 z2 hle ?_
              intro x140 x141 x142 x143 x144 x145 x146 x147 x148 x149 x150 x151 x152 x153 x154 x155 x156 x157 x158 x159 x160 x161 x162 x163 x164 x165 x166 x167 x168 x169 x170 x171 x172 x173 x174 x175 x176 x177 x178 x179 x180 x181 x182 x183 x184 x185 x186 x187 x188 x189 x190 x191 x192 x193 x194 W4 hbn
              have HZ2 := Lib.hid (bStep HZ.out hbn)
              clear c3 c5 c6 gm2 gp gb gt cl lm lp lb lt HZ hbn HWz
              go_wp2_with fail
              exact ⟨⟨o + 1, by omega, by push_cast; rfl, by rw [HVN.out], HZ2⟩, by simp [intOf]; omega⟩
           ·have z1 : (n0.toList == q9.toList) = false := by rw [EQN.out]; exact decide_eq_false (fun c => hko c.symm)
            have HVN : Hid ((h0 || (decide (k0 < o + 1) && hm0)) = hv9) := by show _ = _; rw [← HHV.out]; congr 2; exact decide_eq_decide.2 ⟨fun _ => by omega, fun _ => by omega⟩
            clear hko EQN HQB
            refine reg31_a HUB.out.1 c3 c5 c6 gm2 gp gb gt cl lm lp lb lt d0 d1 o0 o1 p1 q1 zsz zcut zcol hw0 z1 ?_
            intro x140 x141 x142 x143 x144 x145 x146 x147 x148 x149 x150 x151 x152 x153 x154 x155 x156 x157 x158 x159 x160 x161 x162 x163 x164 x165 x166 x167 x168 x169 x170 x171 x172 x173 x174 x175 x176 x177 x178 x179 x180 x181 x182 x183 x184 x185 x186 x187 x188 x189 x190 x191 x192 x193 x194 W4 hbn
            have HZ2 := Lib.hid (bStep HZ.out hbn)
            clear c3 c5 c6 gm2 gp gb gt cl lm lp lb lt HZ hbn HWz
            go_wp2_with fail
            exact ⟨⟨o + 1, by omega, by push_cast; rfl, by rw [HVN.out], HZ2⟩, by simp [intOf]; omega⟩
          ·obtain rfl : o = S.packs.length := by omega
           clear hd c5 c6 HWz
           go_wp2_with fail
           exact ⟨⟨j + 1, by omega, by push_cast; rfl, by rw [HTK.out, decide_eq_true HK0.out, Bool.true_and], HZ⟩, by simp [intOf]; omega⟩
        ·obtain rfl : j = ml := by omega
         clear hd
         have HBX : Hid (Below wx.heap.size wx wr) := bStep HBW.out HV.out
         have HWz := Lib.hid (H2.out.step HBX.out)
         have c3 : wr.cell? ⟨Wd, 3, none⟩ = some (.slice (some ⟨pb, 0, none⟩) S.packs.length cp2) := blk_cell (o := 3) HWz.out.blk rfl
         have cl := blk_lt HWz.out.blk
         have gp := cell_step (HPC.out.2 k (.string q) (by unfold strC; rw [List.getElem?_map, HQ.out]; rfl)) HBX.out
         have lp := Nat.lt_of_lt_of_le HPC.out.1 HBX.out.size
         have gB : wr.cell? ⟨zb, k, none⟩ = some (.bool (fireP (evsOf es))) := cell_step (HBC.out.2 k _ (befC_at HPE.out (by omega))) HBX.out
         have lB := Nat.lt_of_lt_of_le HBC.out.1 HBX.out.size
         obtain ⟨f2, hf2⟩ : ∃ f2, fireP (evsOf es2) = f2 := ⟨_, rfl⟩
         have CF : Hid (Calls Tryz.prog 18 #[.pointer (some ⟨Wd, 0, none⟩), .string q] wr fun en w' => en = .returned (.bool f2) ∧ Below wr.heap.size wr w') := by rw [← hf2]; exact fires_any ⟨_, _, _, _, _, _, HWz.out⟩ HOW2.out.ok q (q, es2) HPF2.out
         have HNX : Hid (affN S b u (k + 1) = affN S b u k + if k ∈ affL S b u then 1 else 0) := affN_succ S b u k
         have HNM : Hid (k ∈ affL S b u → ((affL S b u).map (nameA S.a))[affN S b u k]? = some q) := fun h => names_at HOW.out HQ.out h
         obtain ⟨hv, hhv⟩ : ∃ hv, ((lf (q, es)).ms.take j).any (hitL S b u) = hv := ⟨_, rfl⟩
         obtain ⟨bf, hbf⟩ : ∃ bf, fireP (evsOf es) = bf := ⟨_, rfl⟩
         rw [hhv]
         rw [hbf] at gB
         have hlw : decide (k ∈ affL S b u) = (hv && !bf) := by rw [← hhv, ← hbf, List.take_of_length_le (by rw [HML.out]; exact Nat.le_refl _)]; exact rec_law HRW.out HPE.out
         have HF3 : f2 = (bf || (hv && !bf)) := by rw [← hf2, ← hlw, ← hbf]; exact HF2.out
         have HLAW := Lib.hid hlw
         clear hlw hhv hbf hf2
         cases hv with
         | false =>
          have hnk : ¬ k ∈ affL S b u := of_decide_eq_false (by rw [HLAW.out]; rfl)
          have HNX2 : Hid (affN S b u (k + 1) = affN S b u k) := by show _ = _; rw [HNX.out, if_neg hnk]; rfl
          clear hnk HNX HNM HLAW HF2
          cases bf with
          | false =>
           obtain rfl : f2 = false := HF3
           skip
           go_wp2_with (go_at_call 18; refine CF.out.mono ?_; rintro e w9 ⟨rfl, hb9⟩; have gB9 := cell_step gB hb9; have lB9 := Nat.lt_of_lt_of_le lB hb9.size; have HB9 := Lib.hid (bStep HBX.out hb9))
           exact ⟨⟨k + 1, by omega, by push_cast; rfl, by rw [HNX2.out], HB9⟩, by simp [intOf]; omega⟩
          | true =>
           obtain rfl : f2 = true := HF3
           skip
           go_wp2_with (go_at_call 18; refine CF.out.mono ?_; rintro e w9 ⟨rfl, hb9⟩; have gB9 := cell_step gB hb9; have lB9 := Nat.lt_of_lt_of_le lB hb9.size; have HB9 := Lib.hid (bStep HBX.out hb9))
           exact ⟨⟨k + 1, by omega, by push_cast; rfl, by rw [HNX2.out], HB9⟩, by simp [intOf]; omega⟩
         | true =>
          cases bf with
          | true =>
           have hnk : ¬ k ∈ affL S b u := of_decide_eq_false (by rw [HLAW.out]; rfl)
           have HNX2 : Hid (affN S b u (k + 1) = affN S b u k) := by show _ = _; rw [HNX.out, if_neg hnk]; rfl
           clear hnk HNX HNM HLAW HF2
           obtain rfl : f2 = true := HF3
           skip
           go_wp2_with (go_at_call 18; refine CF.out.mono ?_; rintro e w9 ⟨rfl, hb9⟩; have gB9 := cell_step gB hb9; have lB9 := Nat.lt_of_lt_of_le lB hb9.size; have HB9 := Lib.hid (bStep HBX.out hb9))
           exact ⟨⟨k + 1, by omega, by push_cast; rfl, by rw [HNX2.out], HB9⟩, by simp [intOf]; omega⟩
          | false =>
           have hnk : k ∈ affL S b u := of_decide_eq_true (by rw [HLAW.out]; rfl)
           have HNX2 : Hid (affN S b u (k + 1) = affN S b u k + 1) := by show _ = _; rw [HNX.out, if_pos hnk]
           have hn9 := HNM.out hnk
           have hlt9 : affN S b u k < (affL S b u).length := by have := (List.getElem?_eq_some_iff.1 hn9).1; rwa [List.length_map] at this
           obtain ⟨nb, enb, hnb, hnc⟩ := row_cells (b := 0) (c := cN) HNR.out (by omega)
           obtain rfl := enb
           have gN := cell_step (hnc (affN S b u k) (.string q) (nmC_at hn9)) HBX.out
           have lN := Nat.lt_of_lt_of_le hnb HBX.out.size
           have n1 : ((affN S b u k : Nat) : Int) < ((affL S b u).length : Int) := by omega
           have n2 : (0 : Int) ≤ ((affN S b u k : Nat) : Int) := by omega
           have n3 : ¬ ((affL S b u).length : Int) ≤ ((affN S b u k : Nat) : Int) := by omega
           have n4 : ¬ (affL S b u).length ≤ affN S b u k := by omega
           have n5 : ¬ ((affN S b u k : Nat) : Int) ≥ ((affL S b u).length : Int) := by omega
           have hl100 : (affL S b u).length ≤ 100 := affA_len HOW.out.ok
           obtain rfl : f2 = true := HF3
           clear hnk HNX HNM HLAW HF2 hn9 hnc hnb
           generalize affN S b u k = aN9 at *
           have HNI := Lib.hid (And.intro n3 (And.intro n4 n5))
           clear n3 n4 n5
           go_upto_region 36 with (go_at_call 18; refine CF.out.mono ?_; rintro e w9 ⟨rfl, hb9⟩; have gB9 := cell_step gB hb9; have lB9 := Nat.lt_of_lt_of_le lB hb9.size; have HB9 := Lib.hid (bStep HBX.out hb9))
           obtain ⟨n3, n4, n5⟩ := HNI.out
           have x3 := cell_step c3 hb9
           have xp := cell_step gp hb9
           have xN := cell_step gN hb9
           have xl := Nat.lt_of_lt_of_le cl hb9.size
           have xk := Nat.lt_of_lt_of_le lp hb9.size
           have xb := Nat.lt_of_lt_of_le lN hb9.size
           have f3 := fun s : WStep w9 => cell_step x3 s.2
           have fp := fun s : WStep w9 => cell_step xp s.2
           have fN := fun s : WStep w9 => cell_step xN s.2
           have fl := fun s : WStep w9 => Nat.lt_of_lt_of_le xl s.2.size
           have fk := fun s : WStep w9 => Nat.lt_of_lt_of_le xk s.2.size
           have fb := fun s : WStep w9 => Nat.lt_of_lt_of_le xb s.2.size
           refine wp_region_lock (by kernel_rfl) (by kernel_rfl) ?_
           repeat (first | (refine WQ.skip rfl rfl rfl rfl ?_; simp only [Act.put, sl1, sl2, sl3, sl4]) | ((first | (apply WQ.val; (exact rfl)) | (apply WQ.valg; (exact rfl); (exact rfl); (exact rfl))); (intro w9 hw9; obtain ⟨s9, rfl⟩ := hw9; simp [go_sem, f3, fp, fN, fl, fk, fb, k0, c1, n1, n2, n3, n4, n5]; first | done | exact rfl); simp only [Act.put, sl1, sl2, sl3, sl4]))
           refine WQ.fin fun W4 hbn => ?_
           have HB8 := Lib.hid (bStep HB9.out hbn)
           clear f3 fp fN fl fk fb x3 xp xN xl xk xb
           go_wp2_with fail
           exact ⟨⟨k + 1, by omega, by push_cast; rfl, by rw [HNX2.out]; push_cast; rfl, HB8⟩, by simp [intOf]; omega⟩
      ·obtain rfl : k = S.packs.length := by omega
       have HBB := Lib.hid (bStep H2.out.bel HB.out)
       have CW := Lib.hid (works_any wr (gstep HG.out HBB.out))
       have heq : (((affN S b u S.packs.length : Nat) : Int) == ((affL S b u).length : Int)) = true := by rw [← HLP.out, affN_all]; simp
       clear hc HWr
       generalize affN S b u S.packs.length = aN9 at *
       go_wp2_with (go_at_call 10; refine CW.out.mono ?_; rintro e w9 ⟨rfl, hb9⟩)
       exact bodyPost_ret (v := .bool true) (by simp only [results, Tryz.results5]; go_simp) rfl ⟨rfl, bStep HBB.out hb9⟩
end Go.Proofs.YtmpilgkfbibhlaaGreatDoor
