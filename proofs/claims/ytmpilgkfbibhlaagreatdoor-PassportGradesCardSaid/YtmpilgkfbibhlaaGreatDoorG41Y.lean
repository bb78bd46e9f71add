/-
 The laws' worlds: grades, and that entries verify.
-/
import Derived.Test.YtmpilgkfbibhlaaGreatDoorG39Y
import Derived.Test.YtmpilgkfbibhlaaGreatDoorG25Y
import Derived.Test.YtmpilgkfbibhlaaGreatDoorG0Y
import Derived.Test.YtmpilgkfbibhlaaGreatDoorG34Y
import Derived.Test.YtmpilgkfbibhlaaGreatDoorG29Y
import Derived.Test.YtmpilgkfbibhlaaGreatDoorG30Y
import Derived.Test.YtmpilgkfbibhlaaGreatDoorG17Y
import Derived.Deep.CutBlock
import Derived.Deep.CutRange
set_option linter.unusedSimpArgs false
set_option linter.unusedVariables false
namespace Go.Proofs.YtmpilgkfbibhlaaGreatDoor
open Sx Go.RowKit Mr
structure GrV (P : World → Prop) (A0 : Value → World → Prop) (val : Value) (b0 b1 : Bool) (v0 v1 : Value) (W : World) : Prop where
 p : P W
 y : b0 = true → A0 v0 W
 r : b1 = true → v1 = val
 n0 : b0 = false → b1 = false
section
variable {P : World → Prop} {A0 : Value → World → Prop} {val : Value} {b0 b1 : Bool} {v0 v1 v' : Value} {W w2 : World}
theorem GrV.start (h : P W) : GrV P A0 val false false v0 v1 W := ⟨h, (fun e => by cases e), (fun e => by cases e), fun _ => rfl⟩
theorem GrV.mk0 (h : GrV P A0 val false b1 v0 v1 W) (hp : P w2) (ha : A0 v' w2) : GrV P A0 val true b1 v' v1 w2 := by
 have h1 := h.n0 rfl
 subst h1
 exact ⟨hp, (fun _ => ha), (fun e => by cases e), (fun e => by cases e)⟩
theorem GrV.mk1 (h : GrV P A0 val true false v0 v1 W) (hp : P w2) (ha : A0 v0 w2) : GrV P A0 val true true v0 val w2 := ⟨hp, (fun _ => ha), (fun _ => rfl), (fun e => by cases e)⟩
end
theorem flatY_EntAt {B c : Nat} {a : Option Addr} {es : List Ent} {W : World} (ho : W.ownsRow B 31 10 (.slice a es.length c) es.length (flatY es)) : EntAt a es W := fun hn => by
 have hl : es.length ≠ 0 := fun e => hn (List.length_eq_zero_iff.1 e)
 obtain ⟨b, rfl, hb, hc⟩ := row_cells (b := 0) (c := c) ho hl
 refine ⟨b, 0, rfl, hb, fun k e hk j u hj => ?_⟩
 rw [Nat.zero_add]
 exact hc _ _ (flatY_at hk hj)
theorem VerI.verR {a : RegA} (h : VerI a) (ho : OkA a) {p : ByteArray × List Ent} (hp : p ∈ a.ps) : verR a.pt a.bks p.1 p.2 = (p.2.length, true, 0) := by
 obtain ⟨h1, h2, h3, h4⟩ := ho.p p hp
 unfold Go.Proofs.YtmpilgkfbibhlaaGreatDoor.verR
 rw [if_neg (by rw [ho.sec]; decide), if_neg (by rw [h4]; decide), if_neg (by omega), h.all hp, decide_eq_true rfl]
theorem ents_size {a : RegA} (ho : OkA a) {p : ByteArray × List Ent} (hp : p ∈ a.ps) : p.2.length ≤ 1000000 ∧ ∀ y ∈ p.2, y.1.2.2.2.2.1.size ≤ 100 ∧ y.1.2.2.2.2.2.size ≤ 100 := by
 obtain ⟨h1, h2, h3, h4⟩ := ho.p p hp
 exact ⟨by omega, fun y hy => okX_size (h3 y.1 (List.mem_map_of_mem hy))⟩
theorem grade_in (x : LifeS) : 0 ≤ gradeP x ∧ gradeP x ≤ 6 := by
 unfold gradeP gradeN
 repeat' split
 all_goals omega
end Go.Proofs.YtmpilgkfbibhlaaGreatDoor
namespace Go.Proofs.YtmpilgkfbibhlaaGreatDoor
open Sx Go.RowKit Mr
set_option maxHeartbeats 8000000 in
set_option maxRecDepth 20000 in
theorem PassportGrades_walk (s : Nat) (hs : s < 256) {al : Option Addr} {cl : Nat} {l : List Sm} {w : World} (hG : Glob0 w) (hL : SmsAt al l w) (hO : ∀ x ∈ l, SmOk x) (hLL : l.length ≤ 9223372036854775807) : Calls Tryz.prog 8 #[.int .u8 (s : Int), .slice al l.length cl] w fun en w' => en = .returned (.bool true) ∧ Below w.heap.size w w' := by
 have HG := Lib.hid hG
 have HL := Lib.hid hL
 have HO := Lib.hid hO
 have HLL := Lib.hid hLL
 clear hG hL hO hLL
 go_enter Tryz.func8, Tryz.ntmps8
 go_upto_block 0 with (go_at_call 14; refine (begin_any s hs _).mono ?_; rintro e w1 ⟨Wd, R, vb, vk, rfl, hW⟩; have HW := Lib.hid hW; clear hW)
 go_cut [7] from 25 to 163 (fun s7 W => Hid (∃ S, WdE w Wd R vb vk (booksW s 3) S W))
 case first =>
  go_wp2_with fail
  go_loopw [7] (fun ix wr => ∃ i : Nat, i ≤ l.length ∧ i ≤ 60 ∧ ix = .int .i64 i ∧ Hid (WdE w Wd R vb vk (booksW s 3) (wlN s (l.take i)) wr)) (fun ix _ => 60 - (intOf ix).toNat)
  case atStart => exact ⟨0, Nat.zero_le _, Nat.zero_le _, rfl, HW⟩
  case round =>
   obtain ⟨i, hi, hj, rfl, HS⟩ := hrel
   by_cases hc : i < l.length
   ·by_cases hd : i < 60
    ·have c1 : (i : Int) < l.length := by omega
     have c2 : (i : Int) < 60 := by omega
     have c0 : (0 : Int) ≤ i := by omega
     obtain ⟨x, hk⟩ : ∃ x, l[i]? = some x := ⟨l[i], List.getElem?_eq_getElem hc⟩
     have hOW := wlN_ok hs (l.take i)
     rw [List.length_take, Nat.min_eq_left hi] at hOW
     obtain ⟨z1, z2, z3⟩ := hOW.sizes (by omega) x
     have CD := Lib.hid (do_head HS.out hOW.ok HG.out x (HO.out x (List.mem_of_getElem? hk)) z1 z2 ⟨by rw [hOW.bl]; exact z2.1, by rw [hOW.tl]; exact z2.1⟩ z3)
     have HTK : Hid (wlN s (l.take (i + 1)) = doW (wlN s (l.take i)) x) := by show wlN s (l.take (i + 1)) = _; rw [take_snoc hk, wlN_snoc]
     obtain ⟨b, off, rfl, hbb, hbc⟩ := HL.out (by rintro e; rw [e] at hc; simp at hc)
     have HBW : Hid (Below w.heap.size w wr) := by obtain ⟨_, _, _, _, _, _, q⟩ := HS.out; exact q.bel
     have bl := Nat.lt_of_lt_of_le hbb HBW.out.size
     have x0 : wr.cell? ⟨b, off + i * 7, none⟩ = some (.int .u8 (x.do_ : Int)) := cell_step (hbc i x hk 0 _ rfl) HBW.out
     have x1 : wr.cell? ⟨b, off + i * 7 + 1, none⟩ = some (.int .u8 (x.by_ : Int)) := cell_step (hbc i x hk 1 _ rfl) HBW.out
     have x2 : wr.cell? ⟨b, off + i * 7 + 2, none⟩ = some (.int .u8 (x.p : Int)) := cell_step (hbc i x hk 2 _ rfl) HBW.out
     have x3 : wr.cell? ⟨b, off + i * 7 + 3, none⟩ = some (.int .u8 (x.m : Int)) := cell_step (hbc i x hk 3 _ rfl) HBW.out
     have x4 : wr.cell? ⟨b, off + i * 7 + 4, none⟩ = some (.int .u8 (x.t : Int)) := cell_step (hbc i x hk 4 _ rfl) HBW.out
     have x5 : wr.cell? ⟨b, off + i * 7 + 5, none⟩ = some (.int .u16 (x.n : Int)) := cell_step (hbc i x hk 5 _ rfl) HBW.out
     have x6 : wr.cell? ⟨b, off + i * 7 + 6, none⟩ = some (.int .u8 (x.later : Int)) := cell_step (hbc i x hk 6 _ rfl) HBW.out
     have HLN := Lib.hid hc
     clear hk hOW z1 z2 z3 hbb hbc hd
     have hq7 : Int.tmod (i : Int) 7 = ((i % 7 : Nat) : Int) := by rw [Int.tmod_eq_emod_of_nonneg (by omega)]; rfl
     have hw7 : IntKind.i64.wrap ((i % 7 : Nat) : Int) = ((i % 7 : Nat) : Int) := Go.IntWalk.i64_in _ ⟨by omega, by omega⟩
     have HLM := Lib.hid HL.out
     go_upto_region 8 with (go_at_call 15; refine CD.out.mono ?_; rintro e w9 ⟨rfl, hz⟩; have HZ := Lib.hid hz; clear hz)
     clear x0 x1 x2 x3 x4 x5 x6 bl CD HBW HS
     have HZ1 : Hid (WdE w Wd R vb vk (booksW s 3) (wlN s (l.take (i + 1))) w9) := by rw [HTK.out]; exact HZ
     have hwl : IntKind.i64.wrap ((l.length : Int) - 1) = (l.length : Int) - 1 := Go.IntWalk.i64_in _ ⟨by omega, by have := HLL.out; omega⟩
     clear HZ HTK
     go_cut [50] from 25 to 163 (fun s50 W => ∃ bk : Bool, s50 = .bool bk ∧ Hid (WdE w Wd R vb vk (booksW s 3) (wlN s (l.take (i + 1))) W))
     case first =>
      by_cases e6 : i % 7 = 6
      ·have e7 : (((i % 7 : Nat) : Int) != 6) = false := by rw [e6]; rfl
       generalize i % 7 = i7 at *
       clear e6
       go_wp2_with fail
       go_meet
       exact ⟨_, rfl, HZ1⟩
      ·have e7 : (((i % 7 : Nat) : Int) != 6) = true := by rw [bne_iff_ne]; omega
       generalize i % 7 = i7 at *
       clear e6
       go_wp2_with fail
       go_meet
       exact ⟨_, rfl, HZ1⟩
     case rest =>
      obtain ⟨bk, rfl, HZ2⟩ := hcut
      clear HZ1 hwl hq7 hw7
      cases bk
      ·have hOW1 := wlN_ok hs (l.take (i + 1))
       rw [List.length_take, Nat.min_eq_left (by have := HLN.out; omega)] at hOW1
       have hVR := wlN_ver hs (l.take (i + 1))
       have hBK := wlN_bks hs (l.take (i + 1))
       obtain ⟨g, vp, vpk, vmd, vbt, vmk, hWd⟩ := HZ2.out
       clear HZ2
       generalize hS9 : wlN s (l.take (i + 1)) = S at *
       have HS9 := Lib.hid hS9
       obtain ⟨ap, cp, evp⟩ := row_slice hWd.pk
       subst evp
       obtain ⟨ab, cb, evk, hbt⟩ := hWd.bk
       rw [booksW_len] at evk
       subst evk
       have hnp := hOW1.np
       have H0 := Lib.hid hWd
       have HOW := Lib.hid hOW1
       have HVR := Lib.hid hVR
       have HBK := Lib.hid (And.intro hBK.2 hBK.1)
       clear hWd hOW1 hVR hBK hS9 hbt c1 c0
       go_wp2_with fail
       go_loopw [8] (fun kx wr => ∃ k : Nat, k ≤ S.packs.length ∧ kx = .int .i64 k ∧ Hid (Below wc.heap.size wc wr)) (fun kx _ => S.packs.length - (intOf kx).toNat)
       case atStart => exact ⟨0, Nat.zero_le _, rfl, Below.refl _ _⟩
       case round =>
        obtain ⟨k, hk, rfl, HB⟩ := hrel
        have HWr := Lib.hid (H0.out.step HB.out)
        have c0 : wr.cell? ⟨Wd, 0, none⟩ = some (.pointer (some ⟨R, 0, none⟩)) := blk_cell (o := 0) HWr.out.blk rfl
        have cb1 : wr.cell? ⟨Wd, 1, none⟩ = some (.slice ab 3 cb) := blk_cell (o := 1) HWr.out.blk rfl
        have c3 : wr.cell? ⟨Wd, 3, none⟩ = some (.slice ap S.packs.length cp) := blk_cell (o := 3) HWr.out.blk rfl
        have cl := blk_lt HWr.out.blk
        by_cases hc : k < S.packs.length
        ·have c1 : (k : Int) < S.packs.length := by omega
         have k0 : (0 : Int) ≤ k := by omega
         obtain ⟨q, hq⟩ : ∃ q, S.packs[k]? = some q := ⟨S.packs[k], List.getElem?_eq_getElem hc⟩
         obtain ⟨es, hp, hf⟩ := HOW.out.at hq
         have hpm := List.mem_of_getElem? hp
         have HMP := Lib.hid hpm
         have hok := HOW.out.ok
         have CE : Hid (∀ W, Below wr.heap.size wr W → Calls Tryz.prog 16 #[.pointer (some ⟨R, 0, none⟩), .string q] W fun en w' => ∃ v', en = .returned (.tuple #[v', .int .i64 0]) ∧ w'.ownsRow W.heap.size 31 10 v' es.length (flatY es) ∧ Below W.heap.size W w') := fun W hW => Entries_yes (HWr.out.step hW).v hok q (q, es) (by rw [hf]; exact hp)
         obtain ⟨G9, hG9⟩ : ∃ G9, gradeP (lf (q, es)) = G9 := ⟨_, rfl⟩
         have hg9 : 0 ≤ G9 ∧ G9 ≤ 6 := by rw [← hG9]; exact grade_in _
         have CR : Hid (∀ W, Below wr.heap.size wr W → Calls Tryz.prog 33 #[.pointer (some ⟨R, 0, none⟩), .string q] W fun en w' => en = .returned (.tuple #[.int .i64 G9, .int .i64 0]) ∧ Below W.heap.size W w') := fun W hW => by rw [← hG9]; exact RGrade_yes (HWr.out.step hW).v hok q (q, es) (by rw [hf]; exact hp)
         have CE2 : Hid (∀ W, Below wr.heap.size wr W → Calls Tryz.prog 22 #[.pointer (some ⟨Wd, 0, none⟩), .string q] W fun en w' => ∃ v', en = .returned v' ∧ w'.ownsRow W.heap.size 29 6 v' es.length (flatE (evsOf es)) ∧ Below W.heap.size W w') := fun W hW => events_any ⟨_, _, _, _, _, _, HWr.out.step hW⟩ hok q (q, es) (by rw [hf]; exact hp)
         have CM : Hid (∀ W, Below wr.heap.size wr W → ∀ {a9 : Option Addr} (c9 : Nat), EvAt a9 (evsOf es) W → Calls Tryz.prog 35 #[.string q, .slice a9 (evsOf es).length c9] W fun en w' => en = .returned (.tuple #[.int .i64 G9, .int .i64 0]) ∧ Below W.heap.size W w') := fun W hW a9 c9 hE => by rw [← hG9]; exact PGrade_any c9 q hE (gstep HG.out (HWr.out.step hW).bel) (hok.legA hpm) (fun c => hok.ne _ hpm (by have := evs_len es; rw [c] at this; exact List.length_eq_zero_iff.1 this.symm))
         have HVV : Hid (verV (verR 123456789 (booksW s 3) q es) = .tuple #[.int .i64 (es.length : Int), .bool true, .int .i64 0]) := by
          have h1 := HVR.out.verR hok hpm
          rw [HBK.out.1, HBK.out.2] at h1
          show verV (verR _ _ _ _) = _
          rw [h1]
          rfl
         have HNS : Hid (q.size ≤ 1000) := by have := (nameB_size (hok.p _ hpm).2.2.2).2; show q.size ≤ 1000; dsimp only at this; omega
         have HBT : Hid (∀ W, Below wr.heap.size wr W → BksAt ab (booksW s 3) W) := fun W hW => by
          obtain ⟨a9, c9, e9, h9⟩ := (HWr.out.step hW).bk
          rw [booksW_len] at e9
          have e8 : ab = a9 := by simpa using congrArg (fun v => match v with | Value.slice a _ _ => a | _ => none) e9
          rw [e8]
          exact h9.at_
         obtain ⟨pb, epb, hpb, hpc⟩ := row_cells (b := 0) (c := cp) HWr.out.pk (by omega)
         have gk : wr.cell? ⟨pb, k, none⟩ = some (.string q) := hpc k _ (by unfold strC; rw [List.getElem?_map, hq]; rfl)
         obtain rfl := epb
         have HF := Lib.hid (And.intro c0 (And.intro cb1 (And.intro c3 (And.intro cl (And.intro gk hpb)))))
         have HFS : Hid (∀ W, Below wr.heap.size wr W → W.cell? ⟨Wd, 0, none⟩ = some (.pointer (some ⟨R, 0, none⟩)) ∧ W.cell? ⟨Wd, 1, none⟩ = some (.slice ab 3 cb) ∧ W.cell? ⟨Wd, 3, none⟩ = some (.slice (some ⟨pb, 0, none⟩) S.packs.length cp) ∧ Wd < W.heap.size ∧ W.cell? ⟨pb, k, none⟩ = some (.string q) ∧ pb < W.heap.size) := fun W hW => by
          obtain ⟨f0, f1, f3, fl, fk, fb⟩ := HF.out
          exact ⟨cell_step f0 hW, cell_step f1 hW, cell_step f3 hW, Nat.lt_of_lt_of_le fl hW.size, cell_step fk hW, Nat.lt_of_lt_of_le fb hW.size⟩
         have n1 : ¬ G9 < 0 := by omega
         have n2 : ¬ G9 > 6 := by omega
         clear hpc hq hp hf hc hpm hok hG9 hg9
         go_upto_region 12 with fail
         clear c0 cb1 c3 cl gk hpb
         refine region_all 17 8 165 [(11, 72), (12, 60), (13, 73), (15, 9)] [(none, []), (none, []), (none, []), (none, []), (none, []), (none, []), (none, []), (none, []), (none, []), (none, []), (none, []), (some 0, []), (some 1, [0]), (some 2, [1]), (none, [1]), (some 3, [2]), (none, [])] [(61, (.pointer (some ⟨Wd, 0, none⟩))), (62, (.pointer (some ⟨Wd, 0, none⟩))), (63, (.pointer (some ⟨Wd, 0, none⟩))), (64, (.pointer (some ⟨R, 0, none⟩))), (65, (.pointer (some ⟨Wd, 0, none⟩))), (66, (.pointer (some ⟨Wd, 0, none⟩))), (67, (.pointer (some ⟨Wd, 3, none⟩))), (68, (.slice (some ⟨pb, 0, none⟩) S.packs.length cp)), (69, (.int .i64 (k : Int))), (70, (.pointer (some ⟨pb, k, none⟩))), (71, (.string q)), (74, (.int .i64 0)), (10, (.int .i64 0))] (fun bsE vsE W => CaV (fun W => Below wr.heap.size wr W) (fun v' W => W.ownsRow wr.heap.size 31 10 v' es.length (flatY es)) tup0 (bsE.getD 0 false) (bsE.getD 1 false) (bsE.getD 2 false) (bsE.getD 3 false) ((vsE.getD 0 undef)) ((vsE.getD 1 undef)) ((vsE.getD 2 undef)) ((vsE.getD 3 undef)) W) (by kernel_rfl) (by kernel_rfl) rfl rfl (by kernel_rfl) (by rfl) ?h0 ?each ?done
         case h0 =>
          intro vsE hlv
          obtain ⟨v0, v1, v2, v3, rfl⟩ := ll4 hlv
          exact CaV.start (Below.refl _ _).drew
         case each =>
          simp only [AllE]
          refine ⟨⟨61, (.pointer (some ⟨Wd, 0, none⟩)), rfl, by kernel_rfl, ?_⟩, ⟨62, (.pointer (some ⟨Wd, 0, none⟩)), rfl, by kernel_rfl, ?_⟩, ⟨63, (.pointer (some ⟨Wd, 0, none⟩)), rfl, by kernel_rfl, ?_⟩, ⟨64, (.pointer (some ⟨R, 0, none⟩)), rfl, by kernel_rfl, ?_⟩, ⟨65, (.pointer (some ⟨Wd, 0, none⟩)), rfl, by kernel_rfl, ?_⟩, ⟨66, (.pointer (some ⟨Wd, 0, none⟩)), rfl, by kernel_rfl, ?_⟩, ⟨67, (.pointer (some ⟨Wd, 3, none⟩)), rfl, by kernel_rfl, ?_⟩, ⟨68, (.slice (some ⟨pb, 0, none⟩) S.packs.length cp), rfl, by kernel_rfl, ?_⟩, ⟨69, (.int .i64 (k : Int)), rfl, by kernel_rfl, ?_⟩, ⟨70, (.pointer (some ⟨pb, k, none⟩)), rfl, by kernel_rfl, ?_⟩, ⟨71, (.string q), rfl, by kernel_rfl, ?_⟩, Or.inl ⟨72, rfl, ?q2_11⟩, Or.inl ⟨60, rfl, ?q2_12⟩, Or.inl ⟨73, rfl, ?q2_13⟩, ⟨74, (.int .i64 0), rfl, by kernel_rfl, ?q2_14⟩, Or.inl ⟨9, rfl, ?q2_15⟩, ⟨10, (.int .i64 0), rfl, by kernel_rfl, ?_⟩, trivial⟩
          case q2_11 =>
           intro bsE vsE W hlb hlv hnd hbk h
           obtain ⟨b0, b1, b2, b3, rfl⟩ := ll4 hlb
           obtain ⟨v0, v1, v2, v3, rfl⟩ := ll4 hlv
           obtain rfl : b0 = false := hbk
           replace h : CaV (fun W => Below wr.heap.size wr W) (fun v' W => W.ownsRow wr.heap.size 31 10 v' es.length (flatY es)) tup0 false b1 b2 b3 (v0) (v1) (v2) (v3) W := h
           clear hnd
           have HST := Lib.hid h
           skip
           intro K Q hK
           simp only [putE, updAll, Act.put, sl1, sl2, sl3, sl4] at hK ⊢
           go_wp2_with (go_at_call 16; refine (CE.out _ h.p).mono ?_; rintro en w9 ⟨v', rfl, ho9, hb9⟩)
           all_goals (have hm := h.mk0 (bStep h.p hb9) (own_low ho9 h.p.size))
           all_goals (first | exact hK _ _ hm | exact hm)
          case q2_12 =>
           intro bsE vsE W hlb hlv hnd hbk h
           obtain ⟨b0, b1, b2, b3, rfl⟩ := ll4 hlb
           obtain ⟨v0, v1, v2, v3, rfl⟩ := ll4 hlv
           obtain rfl : b0 = true := hnd 0 (by simp)
           obtain rfl : b1 = false := hbk
           replace h : CaV (fun W => Below wr.heap.size wr W) (fun v' W => W.ownsRow wr.heap.size 31 10 v' es.length (flatY es)) tup0 true false b2 b3 (v0) (v1) (v2) (v3) W := h
           clear hnd
           have HST := Lib.hid h
           obtain ⟨vt, rfl⟩ := h.val0; have hm := h.mk1
           intro K Q hK
           simp only [putE, updAll, Act.put, sl1, sl2, sl3, sl4] at hK ⊢
           go_wp2_with fail
           all_goals (first | exact hK _ _ hm | exact hm)
          case q2_13 =>
           intro bsE vsE W hlb hlv hnd hbk h
           obtain ⟨b0, b1, b2, b3, rfl⟩ := ll4 hlb
           obtain ⟨v0, v1, v2, v3, rfl⟩ := ll4 hlv
           obtain rfl : b1 = true := hnd 1 (by simp)
           obtain rfl : b2 = false := hbk
           replace h : CaV (fun W => Below wr.heap.size wr W) (fun v' W => W.ownsRow wr.heap.size 31 10 v' es.length (flatY es)) tup0 b0 true false b3 (v0) (v1) (v2) (v3) W := h
           clear hnd
           have HST := Lib.hid h
           obtain ⟨vt, rfl⟩ := h.val1; have hm := h.mk2 tup0_inj; unfold tup0
           intro K Q hK
           simp only [putE, updAll, Act.put, sl1, sl2, sl3, sl4] at hK ⊢
           go_wp2_with fail
           all_goals (first | exact hK _ _ hm | exact hm)
          case q2_14 =>
           intro bsE vsE W hlb hlv hnd h
           obtain ⟨b0, b1, b2, b3, rfl⟩ := ll4 hlb
           obtain ⟨v0, v1, v2, v3, rfl⟩ := ll4 hlv
           obtain rfl : b1 = true := hnd 1 (by simp)
           replace h : CaV (fun W => Below wr.heap.size wr W) (fun v' W => W.ownsRow wr.heap.size 31 10 v' es.length (flatY es)) tup0 b0 true b2 b3 (v0) (v1) (v2) (v3) W := h
           clear hnd
           have HST := Lib.hid h
           obtain ⟨vt, rfl⟩ := h.val1; unfold tup0
           intro K Q hK
           simp only [putE, updAll, Act.put, sl1, sl2, sl3, sl4] at hK ⊢
           go_wp2_with (fail)
           all_goals (first | exact hK _ h | exact h)
          case q2_15 =>
           intro bsE vsE W hlb hlv hnd hbk h
           obtain ⟨b0, b1, b2, b3, rfl⟩ := ll4 hlb
           obtain ⟨v0, v1, v2, v3, rfl⟩ := ll4 hlv
           obtain rfl : b2 = true := hnd 2 (by simp)
           obtain rfl : b3 = false := hbk
           replace h : CaV (fun W => Below wr.heap.size wr W) (fun v' W => W.ownsRow wr.heap.size 31 10 v' es.length (flatY es)) tup0 b0 b1 true false (v0) (v1) (v2) (v3) W := h
           clear hnd
           have HST := Lib.hid h
           have hm := h.mk3
           intro K Q hK
           simp only [putE, updAll, Act.put, sl1, sl2, sl3, sl4] at hK ⊢
           go_wp2_with fail
           all_goals (first | exact hK _ _ hm | exact hm)
          all_goals
           intro bsE vsE W hlb hlv hnd h
           obtain ⟨b0, b1, b2, b3, rfl⟩ := ll4 hlb
           obtain ⟨v0, v1, v2, v3, rfl⟩ := ll4 hlv
           replace h : CaV (fun W => Below wr.heap.size wr W) (fun v' W => W.ownsRow wr.heap.size 31 10 v' es.length (flatY es)) tup0 b0 b1 b2 b3 (v0) (v1) (v2) (v3) W := h
           clear hnd
           have HST := Lib.hid h
           obtain ⟨f0, f1, f3, fl, fk, fb⟩ := HF.out; have d0 := cell_step f0 h.p; have d3 := cell_step f3 h.p; have dl := Nat.lt_of_lt_of_le fl h.p.size; have dk := cell_step fk h.p; have db := Nat.lt_of_lt_of_le fb h.p.size; clear f0 f1 f3 fl fk fb
           intro K Q hK
           simp only [putE, updAll, Act.put, sl1, sl2, sl3, sl4] at hK ⊢
           go_wp2_with (fail)
           all_goals (first | exact hK _ h | exact h)
         case done =>
          intro vsE W hlv h
          obtain ⟨v0, v1, v2, v3, rfl⟩ := ll4 hlv
          replace h : CaV (fun W => Below wr.heap.size wr W) (fun v' W => W.ownsRow wr.heap.size 31 10 v' es.length (flatY es)) tup0 true true true true (v0) (v1) (v2) (v3) W := h
          have HST := Lib.hid h
          obtain ⟨hb9, rfl, rfl, rfl, ho9⟩ := h.fin
          obtain ⟨av, cv, ev⟩ := row_slice ho9
          subst ev
          have HW1 := Lib.hid hb9
          have HR1 := Lib.hid ho9
          clear h HST hb9 ho9
          have CG2 := Lib.hid (fun s : WStep W => step_call s (CR.out _ (bStep HW1.out s.2)))
          have CY : Hid (∀ W9, Below wr.heap.size wr W9 → W9.ownsRow wr.heap.size 31 10 (.slice av es.length cv) es.length (flatY es) → Calls Tryz.prog 12 #[.int .u64 123456789, .slice ab 3 cb, .string q, .slice av es.length cv] W9 fun e w' => e = .returned (.tuple #[.int .i64 (es.length : Int), .bool true, .int .i64 0]) ∧ Below W9.heap.size W9 w') := fun W9 h9 ho => by
           have h := Verify_any 123456789 cv cb q (flatY_EntAt ho) (HBT.out _ h9) (gstep HG.out (HWr.out.step h9).bel) (ents_size HOW.out.ok HMP.out) ⟨by rw [booksW_len]; decide, fun bk hbk => by obtain ⟨j, -, rfl⟩ := List.mem_map.1 hbk; show (padsW s j 400).length ≤ 1000000; rw [padsW_len]; decide⟩ HNS.out
           rw [booksW_len, HVV.out] at h
           exact h
          simp only [putE, updAll, Act.put, sl1, sl2, sl3, sl4]
          go_upto_region 13 with fail
          obtain ⟨g0, g1, g3, gl, gk, gb⟩ := (HFS.out _ HW1.out)
          have f0 := fun s : WStep W => cell_step g0 s.2
          have f3 := fun s : WStep W => cell_step g3 s.2
          have fk := fun s : WStep W => cell_step gk s.2
          have fl := fun s : WStep W => Nat.lt_of_lt_of_le gl s.2.size
          have fb := fun s : WStep W => Nat.lt_of_lt_of_le gb s.2.size
          refine wp_region_lock (by kernel_rfl) (by kernel_rfl) ?_
          repeat (first | (refine WQ.skip rfl rfl rfl rfl ?_; simp only [Act.put, sl1, sl2, sl3, sl4]) | ((first | (apply WQ.val; (exact rfl)) | (apply WQ.valg; (exact rfl); (exact rfl); (exact rfl))); (intro w9 hw9; obtain ⟨s9, rfl⟩ := hw9; simp [go_sem, f0, f3, fk, fl, fb, c1, k0]; first | done | exact rfl | (with_reducible exact CG2.out s9)); simp only [Act.put, sl1, sl2, sl3, sl4]))
          refine WQ.fin fun W2 hbn => ?_
          have HW3 : Hid (Below wr.heap.size wr W2) := bStep HW1.out hbn
          have HR3 := Lib.hid (own_step HR1.out hbn)
          clear f0 f3 fk fl fb g0 g1 g3 gl gk gb CG2 hbn HR1 HW1 HF
          have HF2 := Lib.hid (HFS.out _ HW3.out)
          have CV := Lib.hid (fun W9 (h9 : Below W2.heap.size W2 W9) => CE2.out W9 (bStep HW3.out h9))
          have CG := Lib.hid (fun W9 (h9 : Below W2.heap.size W2 W9) {a9 : Option Addr} (c9 : Nat) (hE : EvAt a9 (evsOf es) W9) => CM.out W9 (bStep HW3.out h9) c9 hE)
          go_upto_region 14 with fail
          refine region_all 22 8 165 [(15, 106), (16, 107)] [(none, []), (none, []), (none, []), (none, []), (none, []), (none, []), (none, []), (none, []), (none, []), (none, []), (none, []), (none, []), (none, []), (none, []), (none, []), (some 0, []), (some 1, [0]), (none, [1]), (none, []), (none, []), (none, []), (none, [])] [(91, (.pointer (some ⟨Wd, 0, none⟩))), (92, (.pointer (some ⟨Wd, 0, none⟩))), (93, (.pointer (some ⟨Wd, 3, none⟩))), (94, (.slice (some ⟨pb, 0, none⟩) S.packs.length cp)), (95, (.int .i64 (k : Int))), (96, (.pointer (some ⟨pb, k, none⟩))), (97, (.string q)), (98, (.pointer (some ⟨Wd, 0, none⟩))), (99, (.pointer (some ⟨Wd, 0, none⟩))), (100, (.pointer (some ⟨Wd, 0, none⟩))), (101, (.pointer (some ⟨Wd, 3, none⟩))), (102, (.slice (some ⟨pb, 0, none⟩) S.packs.length cp)), (103, (.int .i64 (k : Int))), (104, (.pointer (some ⟨pb, k, none⟩))), (105, (.string q)), (90, (.tuple #[.int .i64 G9, .int .i64 0])), (108, (.int .i64 G9)), (109, (.int .i64 0)), (13, (.int .i64 G9)), (14, (.int .i64 0))] (fun bsE vsE W => GrV (fun W => Below W2.heap.size W2 W) (EvSl es) (.tuple #[.int .i64 G9, .int .i64 0]) (bsE.getD 0 false) (bsE.getD 1 false) ((vsE.getD 0 undef)) ((vsE.getD 1 undef)) W) (by kernel_rfl) (by kernel_rfl) rfl rfl (by kernel_rfl) (by rfl) ?h0 ?each ?done
          case h0 =>
           intro vsE hlv
           obtain ⟨v0, v1, rfl⟩ := ll2 hlv
           exact GrV.start (Below.refl _ _).drew
          case each =>
           simp only [AllE]
           refine ⟨⟨91, (.pointer (some ⟨Wd, 0, none⟩)), rfl, by kernel_rfl, ?_⟩, ⟨92, (.pointer (some ⟨Wd, 0, none⟩)), rfl, by kernel_rfl, ?_⟩, ⟨93, (.pointer (some ⟨Wd, 3, none⟩)), rfl, by kernel_rfl, ?_⟩, ⟨94, (.slice (some ⟨pb, 0, none⟩) S.packs.length cp), rfl, by kernel_rfl, ?_⟩, ⟨95, (.int .i64 (k : Int)), rfl, by kernel_rfl, ?_⟩, ⟨96, (.pointer (some ⟨pb, k, none⟩)), rfl, by kernel_rfl, ?_⟩, ⟨97, (.string q), rfl, by kernel_rfl, ?_⟩, ⟨98, (.pointer (some ⟨Wd, 0, none⟩)), rfl, by kernel_rfl, ?_⟩, ⟨99, (.pointer (some ⟨Wd, 0, none⟩)), rfl, by kernel_rfl, ?_⟩, ⟨100, (.pointer (some ⟨Wd, 0, none⟩)), rfl, by kernel_rfl, ?_⟩, ⟨101, (.pointer (some ⟨Wd, 3, none⟩)), rfl, by kernel_rfl, ?_⟩, ⟨102, (.slice (some ⟨pb, 0, none⟩) S.packs.length cp), rfl, by kernel_rfl, ?_⟩, ⟨103, (.int .i64 (k : Int)), rfl, by kernel_rfl, ?_⟩, ⟨104, (.pointer (some ⟨pb, k, none⟩)), rfl, by kernel_rfl, ?_⟩, ⟨105, (.string q), rfl, by kernel_rfl, ?_⟩, Or.inl ⟨106, rfl, ?q1_15⟩, Or.inl ⟨107, rfl, ?q1_16⟩, ⟨90, (.tuple #[.int .i64 G9, .int .i64 0]), rfl, by kernel_rfl, ?q1_17⟩, ⟨108, (.int .i64 G9), rfl, by kernel_rfl, ?_⟩, ⟨109, (.int .i64 0), rfl, by kernel_rfl, ?_⟩, ⟨13, (.int .i64 G9), rfl, by kernel_rfl, ?_⟩, ⟨14, (.int .i64 0), rfl, by kernel_rfl, ?_⟩, trivial⟩
           case q1_15 =>
            intro bsE vsE W hlb hlv hnd hbk h
            obtain ⟨b0, b1, rfl⟩ := ll2 hlb
            obtain ⟨v0, v1, rfl⟩ := ll2 hlv
            obtain rfl : b0 = false := hbk
            replace h : GrV (fun W => Below W2.heap.size W2 W) (EvSl es) (.tuple #[.int .i64 G9, .int .i64 0]) false b1 (v0) (v1) W := h
            clear hnd
            have HST := Lib.hid h
            skip
            intro K Q hK
            simp only [putE, updAll, Act.put, sl1, sl2, sl3, sl4] at hK ⊢
            go_wp2_with (go_at_call 22; refine (CV.out _ h.p).mono ?_; rintro en w9 ⟨v', rfl, ho9, hb9⟩)
            all_goals (have hm := h.mk0 (v' := v') (bStep h.p hb9) (by obtain ⟨a9, c9, e9⟩ := row_slice ho9; subst e9; have hl9 := evs_len es; rw [← hl9] at ho9 ⊢; exact ⟨a9, c9, rfl, flatE_EvAt ho9⟩))
            all_goals (first | exact hK _ _ hm | exact hm)
           case q1_16 =>
            intro bsE vsE W hlb hlv hnd hbk h
            obtain ⟨b0, b1, rfl⟩ := ll2 hlb
            obtain ⟨v0, v1, rfl⟩ := ll2 hlv
            obtain rfl : b0 = true := hnd 0 (by simp)
            obtain rfl : b1 = false := hbk
            replace h : GrV (fun W => Below W2.heap.size W2 W) (EvSl es) (.tuple #[.int .i64 G9, .int .i64 0]) true false (v0) (v1) W := h
            clear hnd
            have HST := Lib.hid h
            obtain ⟨a9, c9, rfl, hev⟩ := h.y rfl
            intro K Q hK
            simp only [putE, updAll, Act.put, sl1, sl2, sl3, sl4] at hK ⊢
            go_wp2_with (go_at_call 35; refine (CG.out _ h.p c9 hev).mono ?_; rintro en w9 ⟨rfl, hb9⟩)
            all_goals (have hm := h.mk1 (bStep h.p hb9) ⟨a9, c9, rfl, hev.step hb9⟩)
            all_goals (first | exact hK _ _ hm | exact hm)
           case q1_17 =>
            intro bsE vsE W hlb hlv hnd h
            obtain ⟨b0, b1, rfl⟩ := ll2 hlb
            obtain ⟨v0, v1, rfl⟩ := ll2 hlv
            obtain rfl : b1 = true := hnd 1 (by simp)
            replace h : GrV (fun W => Below W2.heap.size W2 W) (EvSl es) (.tuple #[.int .i64 G9, .int .i64 0]) b0 true (v0) (v1) W := h
            clear hnd
            have HST := Lib.hid h
            obtain rfl := h.r rfl
            intro K Q hK
            simp only [putE, updAll, Act.put, sl1, sl2, sl3, sl4] at hK ⊢
            go_wp2_with (fail)
            all_goals (first | exact hK _ h | exact h)
           all_goals
            intro bsE vsE W hlb hlv hnd h
            obtain ⟨b0, b1, rfl⟩ := ll2 hlb
            obtain ⟨v0, v1, rfl⟩ := ll2 hlv
            replace h : GrV (fun W => Below W2.heap.size W2 W) (EvSl es) (.tuple #[.int .i64 G9, .int .i64 0]) b0 b1 (v0) (v1) W := h
            clear hnd
            have HST := Lib.hid h
            obtain ⟨f0, f1, f3, fl, fk, fb⟩ := HF2.out; have d0 := cell_step f0 h.p; have d3 := cell_step f3 h.p; have dl := Nat.lt_of_lt_of_le fl h.p.size; have dk := cell_step fk h.p; have db := Nat.lt_of_lt_of_le fb h.p.size; clear f0 f1 f3 fl fk fb
            intro K Q hK
            simp only [putE, updAll, Act.put, sl1, sl2, sl3, sl4] at hK ⊢
            go_wp2_with (fail)
            all_goals (first | exact hK _ h | exact h)
          case done =>
           intro vsE W hlv h
           obtain ⟨v0, v1, rfl⟩ := ll2 hlv
           replace h : GrV (fun W => Below W2.heap.size W2 W) (EvSl es) (.tuple #[.int .i64 G9, .int .i64 0]) true true (v0) (v1) W := h
           have HST := Lib.hid h
           have HW4 : Hid (Below wr.heap.size wr W) := bStep HW3.out h.p
           have HR4 := Lib.hid (own_step HR3.out h.p)
           clear h HST
           have HF4 := Lib.hid (HFS.out _ HW4.out)
           obtain ⟨g0, g1, g3, gl, gk, gb⟩ := HF4.out
           have CF := Lib.hid (fun s : WStep W => step_call s (CY.out _ (bStep HW4.out s.2) (own_step HR4.out s.2)))
           clear HF2 HF4
           simp only [putE, updAll, Act.put, sl1, sl2, sl3, sl4]
           go_upto_region 15 with fail
           have f1 := fun s : WStep W => cell_step g1 s.2
           have f3 := fun s : WStep W => cell_step g3 s.2
           have fk := fun s : WStep W => cell_step gk s.2
           have fl := fun s : WStep W => Nat.lt_of_lt_of_le gl s.2.size
           have fb := fun s : WStep W => Nat.lt_of_lt_of_le gb s.2.size
           refine wp_region_lock (by kernel_rfl) (by kernel_rfl) ?_
           repeat (first | (refine WQ.skip rfl rfl rfl rfl ?_; simp only [Act.put, sl1, sl2, sl3, sl4]) | ((first | (apply WQ.val; (exact rfl)) | (apply WQ.valg; (exact rfl); (exact rfl); (exact rfl))); (intro w9 hw9; obtain ⟨s9, rfl⟩ := hw9; simp [go_sem, f1, f3, fk, fl, fb, c1, k0]; first | done | exact rfl | (with_reducible exact CF.out s9)); simp only [Act.put, sl1, sl2, sl3, sl4]))
           refine WQ.fin fun W4 hbn => ?_
           have HW5 : Hid (Below wr.heap.size wr W4) := bStep HW4.out hbn
           clear f1 f3 fk fl fb g0 g1 g3 gl gk gb CF hbn
           go_wp2_with fail
           exact ⟨⟨k + 1, by omega, by push_cast; rfl, bStep HB.out HW5.out⟩, by simp [intOf]; omega⟩
        ·obtain rfl : k = S.packs.length := by omega
         clear hc
         go_wp2_with fail
         exact ⟨⟨i + 1, by have := HLN.out; omega, by omega, by push_cast; rfl, by rw [HS9.out]; exact ⟨_, _, _, _, _, _, H0.out.step HB.out⟩⟩, by simp [intOf]; omega⟩
      ·have hc9 := HLN.out
       go_wp2_with fail
       exact ⟨⟨i + 1, by omega, by omega, by push_cast; rfl, HZ2⟩, by simp [intOf]; omega⟩
    ·have c1 : (i : Int) < l.length := by omega
     have c2 : ¬ (i : Int) < 60 := by omega
     clear hd hc
     go_wp2_with fail
     go_meet
     exact ⟨_, HS.out⟩
   ·have c1 : ¬ (i : Int) < l.length := by omega
    clear hc
    go_wp2_with fail
    go_meet
    exact ⟨_, HS.out⟩
 case rest =>
  have HBB : Hid (Below w.heap.size w wc) := by obtain ⟨S, _, _, _, _, _, _, q⟩ := hcut.out; exact q.bel
  have CW := Lib.hid (works_any wc (gstep HG.out HBB.out))
  go_wp2_with (go_at_call 10; refine CW.out.mono ?_; rintro e w9 ⟨rfl, hb9⟩)
  exact bodyPost_ret (v := .bool true) (by simp only [results, Tryz.results8]; go_simp) rfl ⟨rfl, bStep HBB.out hb9⟩
end Go.Proofs.YtmpilgkfbibhlaaGreatDoor
