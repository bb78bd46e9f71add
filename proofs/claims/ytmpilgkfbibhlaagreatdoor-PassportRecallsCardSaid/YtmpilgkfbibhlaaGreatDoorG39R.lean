/-
 do of the laws' worlds: a module is moved, a batch recalled.
-/
import Derived.Test.YtmpilgkfbibhlaaGreatDoorG0R
import Derived.Test.YtmpilgkfbibhlaaGreatDoorG36R
import Derived.Deep.Cut
import Derived.Deep.CutRange
import Derived.Test.YtmpilgkfbibhlaaGreatDoorG38R
set_option linter.unusedSimpArgs false
set_option linter.unusedVariables false
namespace Go.Proofs.YtmpilgkfbibhlaaGreatDoor
open Sx Go.RowKit Mr
set_option maxHeartbeats 8000000 in
set_option maxRecDepth 20000 in
theorem do_move {w0 w : World} {Wd R : Nat} {vb vk : Value} {bks : List Bk} {S : WdS} (h : WdE w0 Wd R vb vk bks S w) (ho : OkA S.a) (hG : Glob0 w0) (x : Sm) (hx : SmOk x) (ha : 0 ≤ S.at_ ∧ S.at_ ≤ 1000000) (hl : S.packs.length ≤ 1000 ∧ S.mods.length ≤ 10000) (hl2 : S.bts.length ≤ 1000 ∧ S.mds.length ≤ 1000) (hsz : (packW S x).size ≤ 1000000 ∧ (toW S x).size ≤ 1000000 ∧ (modW S x).size ≤ 1000000) (hK9 : x.do_ % 11 = 6 ∨ x.do_ % 11 = 7 ∨ x.do_ % 11 = 8) :
  Calls Tryz.prog 15 #[.pointer (some ⟨Wd, 0, none⟩), .agg #[.int .u8 (x.do_ : Int), .int .u8 (x.by_ : Int), .int .u8 (x.p : Int), .int .u8 (x.m : Int), .int .u8 (x.t : Int), .int .u16 (x.n : Int), .int .u8 (x.later : Int)]] w fun en w' => en = .returned (.bool (okW S x)) ∧ WdE w0 Wd R vb vk bks (doW S x) w' := by
 obtain ⟨g, vp, vpk, vmd, vbt, vmk, h⟩ := h
 have HK9 := Lib.hid hK9
 clear hK9
 have HO := Lib.hid ho
 have HG := Lib.hid hG
 have HX := Lib.hid hx
 have hlt : x.later < 256 := hx.later
 have hD0 : Hid (DoS w0 Wd R vb vk bks S g vp vpk vmd vbt vmk w.heap.size x (w.alloc (.cells #[.int .u8 (x.do_ : Int), .int .u8 (x.by_ : Int), .int .u8 (x.p : Int), .int .u8 (x.m : Int), .int .u8 (x.t : Int), .int .u16 (x.n : Int), .int .u8 (x.later : Int)] 43))) := ⟨h.step bAl, blk_new w _⟩
 have hq : Int.tmod (x.later : Int) 4 = ((x.later % 4 : Nat) : Int) := by rw [Int.tmod_eq_emod_of_nonneg (by omega)]; rfl
 have hq4 : x.later % 4 < 4 := Nat.mod_lt _ (by decide)
 have hw1 : IntKind.i64.wrap ((x.later % 4 : Nat) : Int) = ((x.later % 4 : Nat) : Int) := Go.IntWalk.i64_in _ ⟨by omega, by omega⟩
 have hw2 : IntKind.i64.wrap (S.at_ + ((x.later % 4 : Nat) : Int)) = S.at_ + ((x.later % 4 : Nat) : Int) := Go.IntWalk.i64_in _ ⟨by omega, by omega⟩
 have hw3 : IntKind.i64.wrap (x.later : Int) = (x.later : Int) := Go.IntWalk.i64_in _ ⟨by omega, by omega⟩
 have HAT : Hid (atW S x = S.at_ + ((x.later % 4 : Nat) : Int)) := rfl
 have HA := Lib.hid ha
 have HL := Lib.hid hl
 have HL3 : Hid (S.bts.length ≤ 1000 ∧ S.mds.length ≤ 1000 ∧ S.mods.length ≤ 10000) := ⟨hl2.1, hl2.2, hl.2⟩
 have HPK : Hid ((packW S x).size ≤ 1000000) := hsz.1
 have HTO := Lib.hid hsz.2.1
 have HMD := Lib.hid hsz.2.2
 clear h ho hG hx ha hl hl2 hsz
 go_enter Tryz.func15, Tryz.ntmps15
 go_upto_region 1 with fail
 generalize w.alloc (.cells #[.int .u8 (x.do_ : Int), .int .u8 (x.by_ : Int), .int .u8 (x.p : Int), .int .u8 (x.m : Int), .int .u8 (x.t : Int), .int .u16 (x.n : Int), .int .u8 (x.later : Int)] 43) = W0 at *
 generalize w.heap.size = X at *
 generalize x.later % 4 = l4 at *
 refine region_all 13 13 262 [(4, 18), (12, 263)] [(none, []), (none, []), (none, []), (none, []), (some 0, []), (none, []), (none, []), (none, []), (none, []), (none, [0]), (none, []), (none, []), (some 1, [0])] [(14, (.pointer (some ⟨Wd, 0, none⟩))), (15, (.pointer (some ⟨Wd, 0, none⟩))), (16, (.pointer (some ⟨Wd, 0, none⟩))), (17, (.pointer (some ⟨Wd, 2, none⟩))), (19, (.pointer (some ⟨X, 6, none⟩))), (20, (.int .u8 (x.later : Int))), (21, (.int .i64 (x.later : Int))), (22, (.int .i64 (l4 : Int))), (23, (.int .i64 (S.at_ + (l4 : Int)))), (24, (.pointer (some ⟨Wd, 0, none⟩))), (25, (.pointer (some ⟨Wd, 2, none⟩)))] (fun bsE vsE W => AtS (fun W => W.heap[X]? = some (.cells (smC x).toArray 43 (0, 0))) (fun W => DoS w0 Wd R vb vk bks S g vp vpk vmd vbt vmk X x W) (fun W => DoS w0 Wd R vb vk bks { S with at_ := atW S x } g vp vpk vmd vbt vmk X x W) (.int .i64 S.at_) (bsE.getD 0 false) (bsE.getD 1 false) ((vsE.getD 0 undef)) W) (by kernel_rfl) (by kernel_rfl) rfl rfl (by kernel_rfl) (by rfl) ?h0 ?each ?done
 case h0 =>
  intro vsE hlv
  obtain ⟨v0, v1, rfl⟩ := ll2 hlv
  exact ⟨(hD0.out.step (Below.refl _ _).drew).b, (fun _ => hD0.out.step (Below.refl _ _).drew), (fun e => by cases e), (fun e => by cases e), (fun _ => rfl)⟩
 case each =>
  simp only [AllE]
  refine ⟨⟨14, (.pointer (some ⟨Wd, 0, none⟩)), rfl, by kernel_rfl, ?_⟩, ⟨15, (.pointer (some ⟨Wd, 0, none⟩)), rfl, by kernel_rfl, ?_⟩, ⟨16, (.pointer (some ⟨Wd, 0, none⟩)), rfl, by kernel_rfl, ?_⟩, ⟨17, (.pointer (some ⟨Wd, 2, none⟩)), rfl, by kernel_rfl, ?_⟩, Or.inl ⟨18, rfl, ?q7_4⟩, ⟨19, (.pointer (some ⟨X, 6, none⟩)), rfl, by kernel_rfl, ?_⟩, ⟨20, (.int .u8 (x.later : Int)), rfl, by kernel_rfl, ?_⟩, ⟨21, (.int .i64 (x.later : Int)), rfl, by kernel_rfl, ?_⟩, ⟨22, (.int .i64 (l4 : Int)), rfl, by kernel_rfl, ?_⟩, ⟨23, (.int .i64 (S.at_ + (l4 : Int))), rfl, by kernel_rfl, ?q7_9⟩, ⟨24, (.pointer (some ⟨Wd, 0, none⟩)), rfl, by kernel_rfl, ?_⟩, ⟨25, (.pointer (some ⟨Wd, 2, none⟩)), rfl, by kernel_rfl, ?_⟩, Or.inr ⟨rfl, ?q7_12⟩, trivial⟩
  case q7_4 =>
   intro bsE vsE W hlb hlv hnd hbk h
   obtain ⟨b0, b1, rfl⟩ := ll2 hlb
   obtain ⟨v0, v1, rfl⟩ := ll2 hlv
   obtain rfl : b0 = false := hbk
   replace h : AtS (fun W => W.heap[X]? = some (.cells (smC x).toArray 43 (0, 0))) (fun W => DoS w0 Wd R vb vk bks S g vp vpk vmd vbt vmk X x W) (fun W => DoS w0 Wd R vb vk bks { S with at_ := atW S x } g vp vpk vmd vbt vmk X x W) (.int .i64 S.at_) false b1 (v0) W := h
   clear hnd
   have HST := Lib.hid h
   obtain rfl := h.n rfl; obtain ⟨-, c2, -, -, -, -, cl⟩ := (h.a rfl).c
   intro K Q hK
   simp only [putE, updAll, Act.put, sl1, sl2, sl3, sl4] at hK ⊢
   go_wp2_with fail
   all_goals (have hm : AtS (fun W => W.heap[X]? = some (.cells (smC x).toArray 43 (0, 0))) (fun W => DoS w0 Wd R vb vk bks S g vp vpk vmd vbt vmk X x W) (fun W => DoS w0 Wd R vb vk bks { S with at_ := atW S x } g vp vpk vmd vbt vmk X x W) (.int .i64 S.at_) true false ((.int .i64 S.at_)) W := ⟨h.p, h.a, h.z, (fun _ => rfl), (fun e => by cases e)⟩)
   all_goals (first | exact hK _ _ hm | exact hm)
  case q7_9 =>
   intro bsE vsE W hlb hlv hnd h
   obtain ⟨b0, b1, rfl⟩ := ll2 hlb
   obtain ⟨v0, v1, rfl⟩ := ll2 hlv
   obtain rfl : b0 = true := hnd 0 (by simp)
   replace h : AtS (fun W => W.heap[X]? = some (.cells (smC x).toArray 43 (0, 0))) (fun W => DoS w0 Wd R vb vk bks S g vp vpk vmd vbt vmk X x W) (fun W => DoS w0 Wd R vb vk bks { S with at_ := atW S x } g vp vpk vmd vbt vmk X x W) (.int .i64 S.at_) true b1 (v0) W := h
   clear hnd
   have HST := Lib.hid h
   obtain rfl := h.r rfl
   intro K Q hK
   simp only [putE, updAll, Act.put, sl1, sl2, sl3, sl4] at hK ⊢
   go_wp2_with (fail)
   all_goals (first | exact hK _ h | exact h)
  case q7_12 =>
   intro bsE vsE W hlb hlv hnd hbk h
   obtain ⟨b0, b1, rfl⟩ := ll2 hlb
   obtain ⟨v0, v1, rfl⟩ := ll2 hlv
   obtain rfl : b0 = true := hnd 0 (by simp)
   obtain rfl : b1 = false := hbk
   replace h : AtS (fun W => W.heap[X]? = some (.cells (smC x).toArray 43 (0, 0))) (fun W => DoS w0 Wd R vb vk bks S g vp vpk vmd vbt vmk X x W) (fun W => DoS w0 Wd R vb vk bks { S with at_ := atW S x } g vp vpk vmd vbt vmk X x W) (.int .i64 S.at_) true false (v0) W := h
   clear hnd
   have HST := Lib.hid h
   obtain ⟨-, c2, -, -, -, -, cl⟩ := (h.a rfl).c; have f2 := blk_free (o := 2) (h.a rfl).h.blk; have hd := (h.a rfl).setAt (t := S.at_ + (l4 : Int)); rw [← HAT.out] at hd
   intro K Q hK
   simp only [putE, updAll, Act.put, sl1, sl2, sl3, sl4] at hK ⊢
   go_wp2_with fail
   all_goals (have hm : AtS (fun W => W.heap[X]? = some (.cells (smC x).toArray 43 (0, 0))) (fun W => DoS w0 Wd R vb vk bks S g vp vpk vmd vbt vmk X x W) (fun W => DoS w0 Wd R vb vk bks { S with at_ := atW S x } g vp vpk vmd vbt vmk X x W) (.int .i64 S.at_) true true (v0) (W.setCell ⟨Wd, 2, none⟩ (.int .i64 (S.at_ + (l4 : Int)))) := ⟨by rw [← HAT.out]; exact hd.b, (fun e => by cases e), (fun _ => by rw [← HAT.out]; exact hd), h.r, (fun e => by cases e)⟩)
   all_goals (first | exact hK _ hm | exact hm)
  all_goals
   intro bsE vsE W hlb hlv hnd h
   obtain ⟨b0, b1, rfl⟩ := ll2 hlb
   obtain ⟨v0, v1, rfl⟩ := ll2 hlv
   replace h : AtS (fun W => W.heap[X]? = some (.cells (smC x).toArray 43 (0, 0))) (fun W => DoS w0 Wd R vb vk bks S g vp vpk vmd vbt vmk X x W) (fun W => DoS w0 Wd R vb vk bks { S with at_ := atW S x } g vp vpk vmd vbt vmk X x W) (.int .i64 S.at_) b0 b1 (v0) W := h
   clear hnd
   have HST := Lib.hid h
   have x6 : W.cell? ⟨X, 6, none⟩ = some (.int .u8 (x.later : Int)) := blk_cell h.p rfl; have xl := blk_lt h.p
   intro K Q hK
   simp only [putE, updAll, Act.put, sl1, sl2, sl3, sl4] at hK ⊢
   go_wp2_with (fail)
   all_goals (first | exact hK _ h | exact h)
 case done =>
  intro vsE W hlv h
  obtain ⟨v0, v1, rfl⟩ := ll2 hlv
  replace h : AtS (fun W => W.heap[X]? = some (.cells (smC x).toArray 43 (0, 0))) (fun W => DoS w0 Wd R vb vk bks S g vp vpk vmd vbt vmk X x W) (fun W => DoS w0 Wd R vb vk bks { S with at_ := atW S x } g vp vpk vmd vbt vmk X x W) (.int .i64 S.at_) true true (v0) W := h
  have HST := Lib.hid h
  have HD := Lib.hid (h.z rfl)
  clear h HST hw1 hw2 hw3 hq hq4 hD0 HAT
  simp only [putE, updAll, Act.put, sl1, sl2, sl3, sl4]
  obtain ⟨ap, cp9, evp⟩ := row_slice HD.out.h.pk
  obtain ⟨am, cm9, evm⟩ := row_slice HD.out.h.md
  subst evp
  subst evm
  obtain ⟨c0, c2, c3, c4, c5, c6, cl⟩ := HD.out.c; obtain ⟨x0, x1, x2, x3, x4, x5, x6, xl⟩ := HD.out.sm
  have hby : Int.tmod (x.by_ : Int) 3 = (byW x : Int) := by rw [Int.tmod_eq_emod_of_nonneg (by omega)]; rfl
  have hb3 : byW x < 3 := Nat.mod_lt _ (by decide)
  have hbx := HX.out.by_
  have hbw : IntKind.i64.wrap (byW x : Int) = (byW x : Int) := Go.IntWalk.i64_in _ ⟨by omega, by omega⟩
  have hbv : IntKind.i64.wrap (x.by_ : Int) = (x.by_ : Int) := Go.IntWalk.i64_in _ ⟨by omega, by omega⟩
  go_upto_if 35 with fail
  clear hby hbw hbv
  go_cut [6, 7] from 35 to 70 (fun s6 s7 W => s6 = .string (packW S x) ∧ s7 = .string (toW S x) ∧ Hid (DoS w0 Wd R vb vk bks { S with at_ := atW S x } g vp (.slice ap S.packs.length cp9) (.slice am S.mods.length cm9) vbt vmk X x W))
  case first =>
   by_cases hne : S.packs.length = 0
   ·have h1 : ¬ (S.packs.length : Int) > 0 := by omega
    have HNE := Lib.hid hne
    clear hne
    go_wp2_with fail
    go_meet
    exact ⟨by unfold packW noneT; rw [pick_no HNE.out], by unfold toW noneT; rw [pick_no HNE.out], HD⟩
   ·have h1 : (S.packs.length : Int) > 0 := by omega
    have hn0 : ¬ (S.packs.length : Int) = 0 := by omega
    have hn2 : ¬ S.packs = [] := by rintro e; rw [e] at hne; exact hne rfl
    have hn1 : ((S.packs.length : Int) == 0) = false := by rw [beq_eq_false_iff_ne]; omega
    have hxp := HX.out.p
    have hxt := HX.out.t
    obtain ⟨bk, ebk, hbk, hck⟩ := row_cells (b := 0) (c := cp9) HD.out.h.pk (by exact hne)
    subst ebk
    have gp := hck (x.p % S.packs.length) (.string (packW S x)) (by unfold strC; rw [List.getElem?_map]; exact congrArg _ (pick_yes hne).2)
    have gt := hck (x.t % S.packs.length) (.string (toW S x)) (by unfold strC; rw [List.getElem?_map]; exact congrArg _ (pick_yes hne).2)
    have kq0 : Int.tmod (x.p : Int) (S.packs.length : Int) = ((x.p % S.packs.length : Nat) : Int) := by rw [Int.tmod_eq_emod_of_nonneg (by omega)]; rfl
    have kl0 : ((x.p % S.packs.length : Nat) : Int) < S.packs.length := by have := Nat.mod_lt x.p (show 0 < S.packs.length by omega); omega
    have kz0 : (0 : Int) ≤ ((x.p % S.packs.length : Nat) : Int) := by omega
    have kw0 : IntKind.i64.wrap ((x.p % S.packs.length : Nat) : Int) = ((x.p % S.packs.length : Nat) : Int) := Go.IntWalk.i64_in _ ⟨by omega, by have := HL.out; omega⟩
    have kv0 : IntKind.i64.wrap (x.p : Int) = (x.p : Int) := Go.IntWalk.i64_in _ ⟨by omega, by omega⟩
    have kq1 : Int.tmod (x.t : Int) (S.packs.length : Int) = ((x.t % S.packs.length : Nat) : Int) := by rw [Int.tmod_eq_emod_of_nonneg (by omega)]; rfl
    have kl1 : ((x.t % S.packs.length : Nat) : Int) < S.packs.length := by have := Nat.mod_lt x.t (show 0 < S.packs.length by omega); omega
    have kz1 : (0 : Int) ≤ ((x.t % S.packs.length : Nat) : Int) := by omega
    have kw1 : IntKind.i64.wrap ((x.t % S.packs.length : Nat) : Int) = ((x.t % S.packs.length : Nat) : Int) := Go.IntWalk.i64_in _ ⟨by omega, by have := HL.out; omega⟩
    have kv1 : IntKind.i64.wrap (x.t : Int) = (x.t : Int) := Go.IntWalk.i64_in _ ⟨by omega, by omega⟩
    generalize packW S x = T1 at *
    generalize toW S x = T2 at *
    generalize x.p % S.packs.length = k1 at *
    generalize x.t % S.packs.length = k2 at *
    have HHC := Lib.hid (And.intro gp (And.intro gt hbk))
    clear hck HL HX HO HG HPK HTO HMD
    go_upto_region 5 with fail
    have e1 := fun s : WStep W => cell_step c3 s.2
    have e2 := fun s : WStep W => cell_step x2 s.2
    have e3 := fun s : WStep W => Nat.lt_of_lt_of_le cl s.2.size
    have e4 := fun s : WStep W => Nat.lt_of_lt_of_le xl s.2.size
    have e5 := fun s : WStep W => cell_step gp s.2
    have e6 := fun s : WStep W => Nat.lt_of_lt_of_le hbk s.2.size
    refine wp_region_lock (by kernel_rfl) (by kernel_rfl) ?_
    repeat (first | (refine WQ.skip rfl rfl rfl rfl ?_; simp only [Act.put, sl1, sl2, sl3, sl4]) | ((first | (apply WQ.val; (exact rfl)) | (apply WQ.valg; (exact rfl); (exact rfl); (exact rfl))); (intro w9 hw9; obtain ⟨s9, rfl⟩ := hw9; simp [go_sem, e1, e2, e3, e4, e5, e6, kq0, kl0, kz0, kw0, kv0, kq1, kl1, kz1, kw1, kv1, hn0, hn1, hn2]; first | done | exact rfl); simp only [Act.put, sl1, sl2, sl3, sl4]))
    refine WQ.fin fun W5 hb5 => ?_
    clear e1 e2 e3 e4 e5 e6
    have HD1 := Lib.hid (HD.out.step hb5)
    go_upto_region 6 with fail
    have e1 := fun s : WStep W5 => cell_step c3 (bStep hb5 s.2)
    have e2 := fun s : WStep W5 => cell_step x4 (bStep hb5 s.2)
    have e3 := fun s : WStep W5 => Nat.lt_of_lt_of_le cl (bStep hb5 s.2).size
    have e4 := fun s : WStep W5 => Nat.lt_of_lt_of_le xl (bStep hb5 s.2).size
    have e5 := fun s : WStep W5 => cell_step gt (bStep hb5 s.2)
    have e6 := fun s : WStep W5 => Nat.lt_of_lt_of_le hbk (bStep hb5 s.2).size
    refine wp_region_lock (by kernel_rfl) (by kernel_rfl) ?_
    repeat (first | (refine WQ.skip rfl rfl rfl rfl ?_; simp only [Act.put, sl1, sl2, sl3, sl4]) | ((first | (apply WQ.val; (exact rfl)) | (apply WQ.valg; (exact rfl); (exact rfl); (exact rfl))); (intro w9 hw9; obtain ⟨s9, rfl⟩ := hw9; simp [go_sem, e1, e2, e3, e4, e5, e6, kq0, kl0, kz0, kw0, kv0, kq1, kl1, kz1, kw1, kv1, hn0, hn1, hn2]; first | done | exact rfl); simp only [Act.put, sl1, sl2, sl3, sl4]))
    refine WQ.fin fun W6 hb6 => ?_
    clear e1 e2 e3 e4 e5 e6
    have HD2 := Lib.hid (HD1.out.step hb6)
    go_wp2_with fail
    go_meet
    exact ⟨rfl, rfl, HD2⟩
  case rest =>
   obtain ⟨rfl, rfl, HE⟩ := hcut
   clear c0 c2 c3 c4 c5 c6 cl x0 x1 x2 x3 x4 x5 x6 xl HD
   have HD := HE
   clear HE
   obtain ⟨c0, c2, c3, c4, c5, c6, cl⟩ := HD.out.c; obtain ⟨x0, x1, x2, x3, x4, x5, x6, xl⟩ := HD.out.sm
   go_upto_if 71 with fail
   go_cut [8] from 71 to 86 (fun s8 W => s8 = .string (modW S x) ∧ Hid (DoS w0 Wd R vb vk bks { S with at_ := atW S x } g vp (.slice ap S.packs.length cp9) (.slice am S.mods.length cm9) vbt vmk X x W))
   case first =>
    by_cases hne : S.mods.length = 0
    ·have h1 : ¬ (S.mods.length : Int) > 0 := by omega
     have HNE := Lib.hid hne
     clear hne
     go_wp2_with fail
     go_meet
     exact ⟨by unfold modW none0; rw [pick_no HNE.out], HD⟩
    ·have h1 : (S.mods.length : Int) > 0 := by omega
     have hn0 : ¬ (S.mods.length : Int) = 0 := by omega
     have hn2 : ¬ S.mods = [] := by rintro e; rw [e] at hne; exact hne rfl
     have hn1 : ((S.mods.length : Int) == 0) = false := by rw [beq_eq_false_iff_ne]; omega
     have hxm := HX.out.m
     obtain ⟨bk, ebk, hbk, hck⟩ := row_cells (b := 0) (c := cm9) HD.out.h.md (by exact hne)
     subst ebk
     have gp := hck (x.m % S.mods.length) (.string (modW S x)) (by unfold strC; rw [List.getElem?_map]; exact congrArg _ (pick_yes hne).2)
     have kq0 : Int.tmod (x.m : Int) (S.mods.length : Int) = ((x.m % S.mods.length : Nat) : Int) := by rw [Int.tmod_eq_emod_of_nonneg (by omega)]; rfl
     have kl0 : ((x.m % S.mods.length : Nat) : Int) < S.mods.length := by have := Nat.mod_lt x.m (show 0 < S.mods.length by omega); omega
     have kz0 : (0 : Int) ≤ ((x.m % S.mods.length : Nat) : Int) := by omega
     have kw0 : IntKind.i64.wrap ((x.m % S.mods.length : Nat) : Int) = ((x.m % S.mods.length : Nat) : Int) := Go.IntWalk.i64_in _ ⟨by omega, by have := HL.out; omega⟩
     have kv0 : IntKind.i64.wrap (x.m : Int) = (x.m : Int) := Go.IntWalk.i64_in _ ⟨by omega, by omega⟩
     generalize modW S x = T1 at *
     generalize x.m % S.mods.length = k1 at *
     clear hck HL HX HO HG HPK HTO HMD
     go_upto_region 8 with fail
     have e1 := fun s : WStep wc => cell_step c4 s.2
     have e2 := fun s : WStep wc => cell_step x3 s.2
     have e3 := fun s : WStep wc => Nat.lt_of_lt_of_le cl s.2.size
     have e4 := fun s : WStep wc => Nat.lt_of_lt_of_le xl s.2.size
     have e5 := fun s : WStep wc => cell_step gp s.2
     have e6 := fun s : WStep wc => Nat.lt_of_lt_of_le hbk s.2.size
     refine wp_region_lock (by kernel_rfl) (by kernel_rfl) ?_
     repeat (first | (refine WQ.skip rfl rfl rfl rfl ?_; simp only [Act.put, sl1, sl2, sl3, sl4]) | ((first | (apply WQ.val; (exact rfl)) | (apply WQ.valg; (exact rfl); (exact rfl); (exact rfl))); (intro w9 hw9; obtain ⟨s9, rfl⟩ := hw9; simp [go_sem, e1, e2, e3, e4, e5, e6, kq0, kl0, kz0, kw0, kv0, hn0, hn1, hn2]; first | done | exact rfl); simp only [Act.put, sl1, sl2, sl3, sl4]))
     refine WQ.fin fun W5 hb5 => ?_
     clear e1 e2 e3 e4 e5 e6
     have HD1 := Lib.hid (HD.out.step hb5)
     go_wp2_with fail
     go_meet
     exact ⟨rfl, HD1⟩
   case rest =>
    obtain ⟨rfl, HE⟩ := hcut
    clear c0 c2 c3 c4 c5 c6 cl x0 x1 x2 x3 x4 x5 x6 xl HD
    have HD := HE
    clear HE
    obtain ⟨c0, c2, c3, c4, c5, c6, cl⟩ := HD.out.c; obtain ⟨x0, x1, x2, x3, x4, x5, x6, xl⟩ := HD.out.sm
    obtain ⟨d, hd⟩ : ∃ d, x.do_ % 11 = d := ⟨_, rfl⟩
    have hdo : Int.tmod (x.do_ : Int) 11 = ((d : Nat) : Int) := by rw [Int.tmod_eq_emod_of_nonneg (by omega), ← hd]; rfl
    have hcase : d = 6 ∨ d = 7 ∨ d = 8 := by have h9 := HK9.out; rw [hd] at h9; exact h9
    clear HK9
    rcases hcase with rfl | rfl | rfl
    ·have hdw : IntKind.u8.wrap (6 : Int) = 6 := by decide
     have HRS : Hid (resW S x = (moveA S.a (byW x : Int) (atW S x) (modW S x) (toW S x))) := by show resW S x = _; unfold resW; rw [if_neg (by omega), if_neg (by omega), if_neg (by omega), if_neg (by omega), if_pos (by omega)]
     have HDO : Hid (doW S x = baseW S x) := by show doW S x = _; unfold doW; rw [if_neg (fun c => by have := c.1; omega)]
     clear hd
     obtain ⟨C9, hC9⟩ : ∃ C9, (moveA S.a (byW x : Int) (atW S x) (modW S x) (toW S x)).1 = C9 := ⟨_, rfl⟩
     have HC9 := Lib.hid hC9
     have CE := Lib.hid (fun W (hW : DoS w0 Wd R vb vk bks { S with at_ := atW S x } g vp (.slice ap S.packs.length cp9) (.slice am S.mods.length cm9) vbt vmk X x W) => Move_any hW.h.v HO.out (gstep HG.out hW.h.bel) (byW x : Int) (atW S x) (modW S x) (toW S x) ⟨HMD.out, HTO.out⟩)
     rw [hC9] at CE
     clear hC9 HL
     go_upto_region 33 with fail
     clear c0 c2 c3 c4 c5 c6 cl x0 x1 x2 x3 x4 x5 x6 xl
     refine region_all 14 13 262 [(11, 225)] [(none, []), (none, []), (none, []), (none, []), (none, []), (none, []), (none, []), (none, []), (none, []), (none, []), (none, []), (some 0, []), (none, [0]), (none, [0])] [(214, (.pointer (some ⟨Wd, 0, none⟩))), (215, (.pointer (some ⟨Wd, 0, none⟩))), (216, (.pointer (some ⟨Wd, 0, none⟩))), (217, (.pointer (some ⟨R, 0, none⟩))), (218, (.int .i64 (byW x : Int))), (219, (.pointer (some ⟨Wd, 0, none⟩))), (220, (.pointer (some ⟨Wd, 0, none⟩))), (221, (.pointer (some ⟨Wd, 2, none⟩))), (222, (.int .i64 (atW S x))), (223, (.string (modW S x))), (224, (.string (toW S x))), (226, (.bool (C9 == 0))), (4, (.bool (C9 == 0)))] (fun bsE vsE W => OneV (fun W => W.cell? ⟨Wd, 0, none⟩ = some (.pointer (some ⟨R, 0, none⟩)) ∧ W.cell? ⟨Wd, 2, none⟩ = some (.int .i64 (atW S x)) ∧ Wd < W.heap.size) (fun W => DoS w0 Wd R vb vk bks { S with at_ := atW S x } g vp (.slice ap S.packs.length cp9) (.slice am S.mods.length cm9) vbt vmk X x W) (fun W => WdE w0 Wd R vb vk bks { ({ S with at_ := atW S x } : WdS) with a := (moveA S.a (byW x : Int) (atW S x) (modW S x) (toW S x)).2 } W) (.int .i64 C9) (bsE.getD 0 false) ((vsE.getD 0 undef)) W) (by kernel_rfl) (by kernel_rfl) rfl rfl (by kernel_rfl) (by rfl) ?h0 ?each ?done
     case h0 =>
      intro vsE hlv
      obtain ⟨v0, rfl⟩ := ll1 hlv
      exact ⟨⟨blk_cell (HD.out.step (Below.refl _ _).drew).h.blk rfl, blk_cell (HD.out.step (Below.refl _ _).drew).h.blk rfl, blk_lt (HD.out.step (Below.refl _ _).drew).h.blk⟩, (fun _ => HD.out.step (Below.refl _ _).drew), (fun e => by cases e), (fun e => by cases e)⟩
     case each =>
      simp only [AllE]
      refine ⟨⟨214, (.pointer (some ⟨Wd, 0, none⟩)), rfl, by kernel_rfl, ?_⟩, ⟨215, (.pointer (some ⟨Wd, 0, none⟩)), rfl, by kernel_rfl, ?_⟩, ⟨216, (.pointer (some ⟨Wd, 0, none⟩)), rfl, by kernel_rfl, ?_⟩, ⟨217, (.pointer (some ⟨R, 0, none⟩)), rfl, by kernel_rfl, ?_⟩, ⟨218, (.int .i64 (byW x : Int)), rfl, by kernel_rfl, ?_⟩, ⟨219, (.pointer (some ⟨Wd, 0, none⟩)), rfl, by kernel_rfl, ?_⟩, ⟨220, (.pointer (some ⟨Wd, 0, none⟩)), rfl, by kernel_rfl, ?_⟩, ⟨221, (.pointer (some ⟨Wd, 2, none⟩)), rfl, by kernel_rfl, ?_⟩, ⟨222, (.int .i64 (atW S x)), rfl, by kernel_rfl, ?_⟩, ⟨223, (.string (modW S x)), rfl, by kernel_rfl, ?_⟩, ⟨224, (.string (toW S x)), rfl, by kernel_rfl, ?_⟩, Or.inl ⟨225, rfl, ?q1_11⟩, ⟨226, (.bool (C9 == 0)), rfl, by kernel_rfl, ?q1_12⟩, ⟨4, (.bool (C9 == 0)), rfl, by kernel_rfl, ?q1_13⟩, trivial⟩
      case q1_11 =>
       intro bsE vsE W hlb hlv hnd hbk h
       obtain ⟨b0, rfl⟩ := ll1 hlb
       obtain ⟨v0, rfl⟩ := ll1 hlv
       obtain rfl : b0 = false := hbk
       replace h : OneV (fun W => W.cell? ⟨Wd, 0, none⟩ = some (.pointer (some ⟨R, 0, none⟩)) ∧ W.cell? ⟨Wd, 2, none⟩ = some (.int .i64 (atW S x)) ∧ Wd < W.heap.size) (fun W => DoS w0 Wd R vb vk bks { S with at_ := atW S x } g vp (.slice ap S.packs.length cp9) (.slice am S.mods.length cm9) vbt vmk X x W) (fun W => WdE w0 Wd R vb vk bks { ({ S with at_ := atW S x } : WdS) with a := (moveA S.a (byW x : Int) (atW S x) (modW S x) (toW S x)).2 } W) (.int .i64 C9) false (v0) W := h
       clear hnd
       have HST := Lib.hid h
       have hs := h.a rfl; have hp := h.p
       intro K Q hK
       simp only [putE, updAll, Act.put, sl1, sl2, sl3, sl4] at hK ⊢
       go_wp2_with (go_at_call 55; refine (CE.out _ hs).mono ?_; rintro en w9 ⟨rfl, hN⟩)
       all_goals (have hz := hs.h.moved hN)
       all_goals (have hm : OneV (fun W => W.cell? ⟨Wd, 0, none⟩ = some (.pointer (some ⟨R, 0, none⟩)) ∧ W.cell? ⟨Wd, 2, none⟩ = some (.int .i64 (atW S x)) ∧ Wd < W.heap.size) (fun W => DoS w0 Wd R vb vk bks { S with at_ := atW S x } g vp (.slice ap S.packs.length cp9) (.slice am S.mods.length cm9) vbt vmk X x W) (fun W => WdE w0 Wd R vb vk bks { ({ S with at_ := atW S x } : WdS) with a := (moveA S.a (byW x : Int) (atW S x) (modW S x) (toW S x)).2 } W) (.int .i64 C9) true ((.int .i64 C9)) w9 := ⟨(by obtain ⟨g9, a9, b9, c9, d9, e9, h9⟩ := hz; exact ⟨blk_cell h9.blk rfl, blk_cell h9.blk rfl, blk_lt h9.blk⟩), (fun e => by cases e), (fun _ => hz), (fun _ => rfl)⟩)
       all_goals (first | exact hK _ _ hm | exact hm)
      case q1_12 =>
       intro bsE vsE W hlb hlv hnd h
       obtain ⟨b0, rfl⟩ := ll1 hlb
       obtain ⟨v0, rfl⟩ := ll1 hlv
       obtain rfl : b0 = true := hnd 0 (by simp)
       replace h : OneV (fun W => W.cell? ⟨Wd, 0, none⟩ = some (.pointer (some ⟨R, 0, none⟩)) ∧ W.cell? ⟨Wd, 2, none⟩ = some (.int .i64 (atW S x)) ∧ Wd < W.heap.size) (fun W => DoS w0 Wd R vb vk bks { S with at_ := atW S x } g vp (.slice ap S.packs.length cp9) (.slice am S.mods.length cm9) vbt vmk X x W) (fun W => WdE w0 Wd R vb vk bks { ({ S with at_ := atW S x } : WdS) with a := (moveA S.a (byW x : Int) (atW S x) (modW S x) (toW S x)).2 } W) (.int .i64 C9) true (v0) W := h
       clear hnd
       have HST := Lib.hid h
       obtain rfl := h.r rfl
       intro K Q hK
       simp only [putE, updAll, Act.put, sl1, sl2, sl3, sl4] at hK ⊢
       go_wp2_with (fail)
       all_goals (first | exact hK _ h | exact h)
      case q1_13 =>
       intro bsE vsE W hlb hlv hnd h
       obtain ⟨b0, rfl⟩ := ll1 hlb
       obtain ⟨v0, rfl⟩ := ll1 hlv
       obtain rfl : b0 = true := hnd 0 (by simp)
       replace h : OneV (fun W => W.cell? ⟨Wd, 0, none⟩ = some (.pointer (some ⟨R, 0, none⟩)) ∧ W.cell? ⟨Wd, 2, none⟩ = some (.int .i64 (atW S x)) ∧ Wd < W.heap.size) (fun W => DoS w0 Wd R vb vk bks { S with at_ := atW S x } g vp (.slice ap S.packs.length cp9) (.slice am S.mods.length cm9) vbt vmk X x W) (fun W => WdE w0 Wd R vb vk bks { ({ S with at_ := atW S x } : WdS) with a := (moveA S.a (byW x : Int) (atW S x) (modW S x) (toW S x)).2 } W) (.int .i64 C9) true (v0) W := h
       clear hnd
       have HST := Lib.hid h
       obtain rfl := h.r rfl
       intro K Q hK
       simp only [putE, updAll, Act.put, sl1, sl2, sl3, sl4] at hK ⊢
       go_wp2_with (fail)
       all_goals (first | exact hK _ h | exact h)
      all_goals
       intro bsE vsE W hlb hlv hnd h
       obtain ⟨b0, rfl⟩ := ll1 hlb
       obtain ⟨v0, rfl⟩ := ll1 hlv
       replace h : OneV (fun W => W.cell? ⟨Wd, 0, none⟩ = some (.pointer (some ⟨R, 0, none⟩)) ∧ W.cell? ⟨Wd, 2, none⟩ = some (.int .i64 (atW S x)) ∧ Wd < W.heap.size) (fun W => DoS w0 Wd R vb vk bks { S with at_ := atW S x } g vp (.slice ap S.packs.length cp9) (.slice am S.mods.length cm9) vbt vmk X x W) (fun W => WdE w0 Wd R vb vk bks { ({ S with at_ := atW S x } : WdS) with a := (moveA S.a (byW x : Int) (atW S x) (modW S x) (toW S x)).2 } W) (.int .i64 C9) b0 (v0) W := h
       clear hnd
       have HST := Lib.hid h
       obtain ⟨g0, g2, gl⟩ := h.p
       intro K Q hK
       simp only [putE, updAll, Act.put, sl1, sl2, sl3, sl4] at hK ⊢
       go_wp2_with (fail)
       all_goals (first | exact hK _ h | exact h)
     case done =>
      intro vsE W hlv h
      obtain ⟨v0, rfl⟩ := ll1 hlv
      replace h : OneV (fun W => W.cell? ⟨Wd, 0, none⟩ = some (.pointer (some ⟨R, 0, none⟩)) ∧ W.cell? ⟨Wd, 2, none⟩ = some (.int .i64 (atW S x)) ∧ Wd < W.heap.size) (fun W => DoS w0 Wd R vb vk bks { S with at_ := atW S x } g vp (.slice ap S.packs.length cp9) (.slice am S.mods.length cm9) vbt vmk X x W) (fun W => WdE w0 Wd R vb vk bks { ({ S with at_ := atW S x } : WdS) with a := (moveA S.a (byW x : Int) (atW S x) (modW S x) (toW S x)).2 } W) (.int .i64 C9) true (v0) W := h
      have HST := Lib.hid h
      have HZ := Lib.hid (h.z rfl)
      clear h HST
      simp only [putE, updAll, Act.put, sl1, sl2, sl3, sl4]
      go_wp2_with fail
      exact bodyPost_ret (v := .bool (C9 == 0)) (by simp only [results, Tryz.results15]; go_simp) rfl ⟨by unfold okW; rw [HRS.out, HC9.out], by rw [HDO.out]; unfold baseW; rw [HRS.out]; exact HZ.out⟩
    ·have hdw : IntKind.u8.wrap (7 : Int) = 7 := by decide
     have HRS : Hid (resW S x = (moveA S.a (byW x : Int) (atW S x) (modW S x) (toW S x))) := by show resW S x = _; unfold resW; rw [if_neg (by omega), if_neg (by omega), if_neg (by omega), if_neg (by omega), if_pos (by omega)]
     have HDO : Hid (doW S x = baseW S x) := by show doW S x = _; unfold doW; rw [if_neg (fun c => by have := c.1; omega)]
     clear hd
     obtain ⟨C9, hC9⟩ : ∃ C9, (moveA S.a (byW x : Int) (atW S x) (modW S x) (toW S x)).1 = C9 := ⟨_, rfl⟩
     have HC9 := Lib.hid hC9
     have CE := Lib.hid (fun W (hW : DoS w0 Wd R vb vk bks { S with at_ := atW S x } g vp (.slice ap S.packs.length cp9) (.slice am S.mods.length cm9) vbt vmk X x W) => Move_any hW.h.v HO.out (gstep HG.out hW.h.bel) (byW x : Int) (atW S x) (modW S x) (toW S x) ⟨HMD.out, HTO.out⟩)
     rw [hC9] at CE
     clear hC9 HL
     go_upto_region 33 with fail
     clear c0 c2 c3 c4 c5 c6 cl x0 x1 x2 x3 x4 x5 x6 xl
     refine region_all 14 13 262 [(11, 225)] [(none, []), (none, []), (none, []), (none, []), (none, []), (none, []), (none, []), (none, []), (none, []), (none, []), (none, []), (some 0, []), (none, [0]), (none, [0])] [(214, (.pointer (some ⟨Wd, 0, none⟩))), (215, (.pointer (some ⟨Wd, 0, none⟩))), (216, (.pointer (some ⟨Wd, 0, none⟩))), (217, (.pointer (some ⟨R, 0, none⟩))), (218, (.int .i64 (byW x : Int))), (219, (.pointer (some ⟨Wd, 0, none⟩))), (220, (.pointer (some ⟨Wd, 0, none⟩))), (221, (.pointer (some ⟨Wd, 2, none⟩))), (222, (.int .i64 (atW S x))), (223, (.string (modW S x))), (224, (.string (toW S x))), (226, (.bool (C9 == 0))), (4, (.bool (C9 == 0)))] (fun bsE vsE W => OneV (fun W => W.cell? ⟨Wd, 0, none⟩ = some (.pointer (some ⟨R, 0, none⟩)) ∧ W.cell? ⟨Wd, 2, none⟩ = some (.int .i64 (atW S x)) ∧ Wd < W.heap.size) (fun W => DoS w0 Wd R vb vk bks { S with at_ := atW S x } g vp (.slice ap S.packs.length cp9) (.slice am S.mods.length cm9) vbt vmk X x W) (fun W => WdE w0 Wd R vb vk bks { ({ S with at_ := atW S x } : WdS) with a := (moveA S.a (byW x : Int) (atW S x) (modW S x) (toW S x)).2 } W) (.int .i64 C9) (bsE.getD 0 false) ((vsE.getD 0 undef)) W) (by kernel_rfl) (by kernel_rfl) rfl rfl (by kernel_rfl) (by rfl) ?h0 ?each ?done
     case h0 =>
      intro vsE hlv
      obtain ⟨v0, rfl⟩ := ll1 hlv
      exact ⟨⟨blk_cell (HD.out.step (Below.refl _ _).drew).h.blk rfl, blk_cell (HD.out.step (Below.refl _ _).drew).h.blk rfl, blk_lt (HD.out.step (Below.refl _ _).drew).h.blk⟩, (fun _ => HD.out.step (Below.refl _ _).drew), (fun e => by cases e), (fun e => by cases e)⟩
     case each =>
      simp only [AllE]
      refine ⟨⟨214, (.pointer (some ⟨Wd, 0, none⟩)), rfl, by kernel_rfl, ?_⟩, ⟨215, (.pointer (some ⟨Wd, 0, none⟩)), rfl, by kernel_rfl, ?_⟩, ⟨216, (.pointer (some ⟨Wd, 0, none⟩)), rfl, by kernel_rfl, ?_⟩, ⟨217, (.pointer (some ⟨R, 0, none⟩)), rfl, by kernel_rfl, ?_⟩, ⟨218, (.int .i64 (byW x : Int)), rfl, by kernel_rfl, ?_⟩, ⟨219, (.pointer (some ⟨Wd, 0, none⟩)), rfl, by kernel_rfl, ?_⟩, ⟨220, (.pointer (some ⟨Wd, 0, none⟩)), rfl, by kernel_rfl, ?_⟩, ⟨221, (.pointer (some ⟨Wd, 2, none⟩)), rfl, by kernel_rfl, ?_⟩, ⟨222, (.int .i64 (atW S x)), rfl, by kernel_rfl, ?_⟩, ⟨223, (.string (modW S x)), rfl, by kernel_rfl, ?_⟩, ⟨224, (.string (toW S x)), rfl, by kernel_rfl, ?_⟩, Or.inl ⟨225, rfl, ?q2_11⟩, ⟨226, (.bool (C9 == 0)), rfl, by kernel_rfl, ?q2_12⟩, ⟨4, (.bool (C9 == 0)), rfl, by kernel_rfl, ?q2_13⟩, trivial⟩
      case q2_11 =>
       intro bsE vsE W hlb hlv hnd hbk h
       obtain ⟨b0, rfl⟩ := ll1 hlb
       obtain ⟨v0, rfl⟩ := ll1 hlv
       obtain rfl : b0 = false := hbk
       replace h : OneV (fun W => W.cell? ⟨Wd, 0, none⟩ = some (.pointer (some ⟨R, 0, none⟩)) ∧ W.cell? ⟨Wd, 2, none⟩ = some (.int .i64 (atW S x)) ∧ Wd < W.heap.size) (fun W => DoS w0 Wd R vb vk bks { S with at_ := atW S x } g vp (.slice ap S.packs.length cp9) (.slice am S.mods.length cm9) vbt vmk X x W) (fun W => WdE w0 Wd R vb vk bks { ({ S with at_ := atW S x } : WdS) with a := (moveA S.a (byW x : Int) (atW S x) (modW S x) (toW S x)).2 } W) (.int .i64 C9) false (v0) W := h
       clear hnd
       have HST := Lib.hid h
       have hs := h.a rfl; have hp := h.p
       intro K Q hK
       simp only [putE, updAll, Act.put, sl1, sl2, sl3, sl4] at hK ⊢
       go_wp2_with (go_at_call 55; refine (CE.out _ hs).mono ?_; rintro en w9 ⟨rfl, hN⟩)
       all_goals (have hz := hs.h.moved hN)
       all_goals (have hm : OneV (fun W => W.cell? ⟨Wd, 0, none⟩ = some (.pointer (some ⟨R, 0, none⟩)) ∧ W.cell? ⟨Wd, 2, none⟩ = some (.int .i64 (atW S x)) ∧ Wd < W.heap.size) (fun W => DoS w0 Wd R vb vk bks { S with at_ := atW S x } g vp (.slice ap S.packs.length cp9) (.slice am S.mods.length cm9) vbt vmk X x W) (fun W => WdE w0 Wd R vb vk bks { ({ S with at_ := atW S x } : WdS) with a := (moveA S.a (byW x : Int) (atW S x) (modW S x) (toW S x)).2 } W) (.int .i64 C9) true ((.int .i64 C9)) w9 := ⟨(by obtain ⟨g9, a9, b9, c9, d9, e9, h9⟩ := hz; exact ⟨blk_cell h9.blk rfl, blk_cell h9.blk rfl, blk_lt h9.blk⟩), (fun e => by cases e), (fun _ => hz), (fun _ => rfl)⟩)
       all_goals (first | exact hK _ _ hm | exact hm)
      case q2_12 =>
       intro bsE vsE W hlb hlv hnd h
       obtain ⟨b0, rfl⟩ := ll1 hlb
       obtain ⟨v0, rfl⟩ := ll1 hlv
       obtain rfl : b0 = true := hnd 0 (by simp)
       replace h : OneV (fun W => W.cell? ⟨Wd, 0, none⟩ = some (.pointer (some ⟨R, 0, none⟩)) ∧ W.cell? ⟨Wd, 2, none⟩ = some (.int .i64 (atW S x)) ∧ Wd < W.heap.size) (fun W => DoS w0 Wd R vb vk bks { S with at_ := atW S x } g vp (.slice ap S.packs.length cp9) (.slice am S.mods.length cm9) vbt vmk X x W) (fun W => WdE w0 Wd R vb vk bks { ({ S with at_ := atW S x } : WdS) with a := (moveA S.a (byW x : Int) (atW S x) (modW S x) (toW S x)).2 } W) (.int .i64 C9) true (v0) W := h
       clear hnd
       have HST := Lib.hid h
       obtain rfl := h.r rfl
       intro K Q hK
       simp only [putE, updAll, Act.put, sl1, sl2, sl3, sl4] at hK ⊢
       go_wp2_with (fail)
       all_goals (first | exact hK _ h | exact h)
      case q2_13 =>
       intro bsE vsE W hlb hlv hnd h
       obtain ⟨b0, rfl⟩ := ll1 hlb
       obtain ⟨v0, rfl⟩ := ll1 hlv
       obtain rfl : b0 = true := hnd 0 (by simp)
       replace h : OneV (fun W => W.cell? ⟨Wd, 0, none⟩ = some (.pointer (some ⟨R, 0, none⟩)) ∧ W.cell? ⟨Wd, 2, none⟩ = some (.int .i64 (atW S x)) ∧ Wd < W.heap.size) (fun W => DoS w0 Wd R vb vk bks { S with at_ := atW S x } g vp (.slice ap S.packs.length cp9) (.slice am S.mods.length cm9) vbt vmk X x W) (fun W => WdE w0 Wd R vb vk bks { ({ S with at_ := atW S x } : WdS) with a := (moveA S.a (byW x : Int) (atW S x) (modW S x) (toW S x)).2 } W) (.int .i64 C9) true (v0) W := h
       clear hnd
       have HST := Lib.hid h
       obtain rfl := h.r rfl
       intro K Q hK
       simp only [putE, updAll, Act.put, sl1, sl2, sl3, sl4] at hK ⊢
       go_wp2_with (fail)
       all_goals (first | exact hK _ h | exact h)
      all_goals
       intro bsE vsE W hlb hlv hnd h
       obtain ⟨b0, rfl⟩ := ll1 hlb
       obtain ⟨v0, rfl⟩ := ll1 hlv
       replace h : OneV (fun W => W.cell? ⟨Wd, 0, none⟩ = some (.pointer (some ⟨R, 0, none⟩)) ∧ W.cell? ⟨Wd, 2, none⟩ = some (.int .i64 (atW S x)) ∧ Wd < W.heap.size) (fun W => DoS w0 Wd R vb vk bks { S with at_ := atW S x } g vp (.slice ap S.packs.length cp9) (.slice am S.mods.length cm9) vbt vmk X x W) (fun W => WdE w0 Wd R vb vk bks { ({ S with at_ := atW S x } : WdS) with a := (moveA S.a (byW x : Int) (atW S x) (modW S x) (toW S x)).2 } W) (.int .i64 C9) b0 (v0) W := h
       clear hnd
       have HST := Lib.hid h
       obtain ⟨g0, g2, gl⟩ := h.p
       intro K Q hK
       simp only [putE, updAll, Act.put, sl1, sl2, sl3, sl4] at hK ⊢
       go_wp2_with (fail)
       all_goals (first | exact hK _ h | exact h)
     case done =>
      intro vsE W hlv h
      obtain ⟨v0, rfl⟩ := ll1 hlv
      replace h : OneV (fun W => W.cell? ⟨Wd, 0, none⟩ = some (.pointer (some ⟨R, 0, none⟩)) ∧ W.cell? ⟨Wd, 2, none⟩ = some (.int .i64 (atW S x)) ∧ Wd < W.heap.size) (fun W => DoS w0 Wd R vb vk bks { S with at_ := atW S x } g vp (.slice ap S.packs.length cp9) (.slice am S.mods.length cm9) vbt vmk X x W) (fun W => WdE w0 Wd R vb vk bks { ({ S with at_ := atW S x } : WdS) with a := (moveA S.a (byW x : Int) (atW S x) (modW S x) (toW S x)).2 } W) (.int .i64 C9) true (v0) W := h
      have HST := Lib.hid h
      have HZ := Lib.hid (h.z rfl)
      clear h HST
      simp only [putE, updAll, Act.put, sl1, sl2, sl3, sl4]
      go_wp2_with fail
      exact bodyPost_ret (v := .bool (C9 == 0)) (by simp only [results, Tryz.results15]; go_simp) rfl ⟨by unfold okW; rw [HRS.out, HC9.out], by rw [HDO.out]; unfold baseW; rw [HRS.out]; exact HZ.out⟩
    ·have hdw : IntKind.u8.wrap (8 : Int) = 8 := by decide
     have HRS : Hid (resW S x = ((recallA S.a (byW x : Int) (atW S x) (batchP x.t) 0 (x.m : Int) fireT).1, (recallA S.a (byW x : Int) (atW S x) (batchP x.t) 0 (x.m : Int) fireT).2.2)) := by show resW S x = _; unfold resW; rw [if_neg (by omega), if_neg (by omega), if_neg (by omega), if_neg (by omega), if_neg (by omega), if_pos (by omega)]; rfl
     have HDO : Hid (doW S x = baseW S x) := by show doW S x = _; unfold doW; rw [if_neg (fun c => by have := c.1; omega)]
     clear hd
     obtain ⟨C9, hC9⟩ : ∃ C9, (recallA S.a (byW x : Int) (atW S x) (batchP x.t) 0 (x.m : Int) fireT).1 = C9 := ⟨_, rfl⟩
     have HC9 := Lib.hid hC9
     have CE := Lib.hid (fun W (hW : DoS w0 Wd R vb vk bks { S with at_ := atW S x } g vp (.slice ap S.packs.length cp9) (.slice am S.mods.length cm9) vbt vmk X x W) => Recall_any hW.h.v HO.out (gstep HG.out hW.h.bel) (byW x : Int) (atW S x) (batchP x.t) 0 (x.m : Int) fireT ⟨by have := (nameB_size (batchP_ok x.t)).2; omega, by decide⟩)
     rw [hC9] at CE
     clear hC9 HL
     have hxm := HX.out.m
     have hm1 : IntKind.i64.wrap (x.m : Int) = (x.m : Int) := Go.IntWalk.i64_in _ ⟨by omega, by omega⟩
     go_upto_region 35 with fail
     clear c0 c2 c3 c4 c5 c6 cl x0 x1 x2 x3 x4 x5 x6 xl
     refine region_all 21 13 262 [(11, 241), (15, 245), (16, 229), (17, 246), (19, 12)] [(none, []), (none, []), (none, []), (none, []), (none, []), (none, []), (none, []), (none, []), (none, []), (none, []), (none, []), (some 0, []), (none, []), (none, []), (none, []), (some 1, [0]), (some 2, [1]), (some 3, [2]), (none, [2]), (some 4, [3]), (none, [])] [(230, (.pointer (some ⟨Wd, 0, none⟩))), (231, (.pointer (some ⟨Wd, 0, none⟩))), (232, (.pointer (some ⟨Wd, 0, none⟩))), (233, (.pointer (some ⟨R, 0, none⟩))), (234, (.int .i64 (byW x : Int))), (235, (.pointer (some ⟨Wd, 0, none⟩))), (236, (.pointer (some ⟨Wd, 0, none⟩))), (237, (.pointer (some ⟨Wd, 2, none⟩))), (238, (.int .i64 (atW S x))), (239, (.pointer (some ⟨X, 4, none⟩))), (240, (.int .u8 (x.t : Int))), (242, (.pointer (some ⟨X, 3, none⟩))), (243, (.int .u8 (x.m : Int))), (244, (.int .i64 (x.m : Int))), (247, (.int .i64 C9)), (13, (.int .i64 C9))] (fun bsE vsE W => RcV (fun W => W.heap[X]? = some (.cells (smC x).toArray 43 (0, 0)) ∧ W.cell? ⟨Wd, 0, none⟩ = some (.pointer (some ⟨R, 0, none⟩)) ∧ W.cell? ⟨Wd, 2, none⟩ = some (.int .i64 (atW S x)) ∧ Wd < W.heap.size) (fun W => DoS w0 Wd R vb vk bks { S with at_ := atW S x } g vp (.slice ap S.packs.length cp9) (.slice am S.mods.length cm9) vbt vmk X x W) (fun W => WdE w0 Wd R vb vk bks { ({ S with at_ := atW S x } : WdS) with a := (recallA S.a (byW x : Int) (atW S x) (batchP x.t) 0 (x.m : Int) fireT).2.2 } W) (.string (batchP x.t)) C9 (bsE.getD 0 false) (bsE.getD 1 false) (bsE.getD 2 false) ((vsE.getD 0 undef)) ((vsE.getD 1 undef)) ((vsE.getD 2 undef)) W) (by kernel_rfl) (by kernel_rfl) rfl rfl (by kernel_rfl) (by rfl) ?h0 ?each ?done
     case h0 =>
      intro vsE hlv
      obtain ⟨v0, v1, v2, v3, v4, rfl⟩ := ll5 hlv
      exact ⟨⟨(HD.out.step (Below.refl _ _).drew).b, blk_cell (HD.out.step (Below.refl _ _).drew).h.blk rfl, blk_cell (HD.out.step (Below.refl _ _).drew).h.blk rfl, blk_lt (HD.out.step (Below.refl _ _).drew).h.blk⟩, (fun _ => HD.out.step (Below.refl _ _).drew), (fun e => by cases e), (fun e => by cases e), (fun _ => rfl), (fun e => by cases e), (fun e => by cases e)⟩
     case each =>
      simp only [AllE]
      refine ⟨⟨230, (.pointer (some ⟨Wd, 0, none⟩)), rfl, by kernel_rfl, ?_⟩, ⟨231, (.pointer (some ⟨Wd, 0, none⟩)), rfl, by kernel_rfl, ?_⟩, ⟨232, (.pointer (some ⟨Wd, 0, none⟩)), rfl, by kernel_rfl, ?_⟩, ⟨233, (.pointer (some ⟨R, 0, none⟩)), rfl, by kernel_rfl, ?_⟩, ⟨234, (.int .i64 (byW x : Int)), rfl, by kernel_rfl, ?_⟩, ⟨235, (.pointer (some ⟨Wd, 0, none⟩)), rfl, by kernel_rfl, ?_⟩, ⟨236, (.pointer (some ⟨Wd, 0, none⟩)), rfl, by kernel_rfl, ?_⟩, ⟨237, (.pointer (some ⟨Wd, 2, none⟩)), rfl, by kernel_rfl, ?_⟩, ⟨238, (.int .i64 (atW S x)), rfl, by kernel_rfl, ?_⟩, ⟨239, (.pointer (some ⟨X, 4, none⟩)), rfl, by kernel_rfl, ?_⟩, ⟨240, (.int .u8 (x.t : Int)), rfl, by kernel_rfl, ?_⟩, Or.inl ⟨241, rfl, ?q3_11⟩, ⟨242, (.pointer (some ⟨X, 3, none⟩)), rfl, by kernel_rfl, ?_⟩, ⟨243, (.int .u8 (x.m : Int)), rfl, by kernel_rfl, ?_⟩, ⟨244, (.int .i64 (x.m : Int)), rfl, by kernel_rfl, ?_⟩, Or.inl ⟨245, rfl, ?q3_15⟩, Or.inl ⟨229, rfl, ?q3_16⟩, Or.inl ⟨246, rfl, ?q3_17⟩, ⟨247, (.int .i64 C9), rfl, by kernel_rfl, ?q3_18⟩, Or.inl ⟨12, rfl, ?q3_19⟩, ⟨13, (.int .i64 C9), rfl, by kernel_rfl, ?_⟩, trivial⟩
      case q3_11 =>
       intro bsE vsE W hlb hlv hnd hbk h
       obtain ⟨b0, b1, b2, b3, b4, rfl⟩ := ll5 hlb
       obtain ⟨v0, v1, v2, v3, v4, rfl⟩ := ll5 hlv
       obtain rfl : b0 = false := hbk
       replace h : RcV (fun W => W.heap[X]? = some (.cells (smC x).toArray 43 (0, 0)) ∧ W.cell? ⟨Wd, 0, none⟩ = some (.pointer (some ⟨R, 0, none⟩)) ∧ W.cell? ⟨Wd, 2, none⟩ = some (.int .i64 (atW S x)) ∧ Wd < W.heap.size) (fun W => DoS w0 Wd R vb vk bks { S with at_ := atW S x } g vp (.slice ap S.packs.length cp9) (.slice am S.mods.length cm9) vbt vmk X x W) (fun W => WdE w0 Wd R vb vk bks { ({ S with at_ := atW S x } : WdS) with a := (recallA S.a (byW x : Int) (atW S x) (batchP x.t) 0 (x.m : Int) fireT).2.2 } W) (.string (batchP x.t)) C9 false b1 b2 (v0) (v1) (v2) W := h
       clear hnd
       have HST := Lib.hid h
       obtain rfl := h.n rfl; have hs := h.a rfl; have hp := h.p
       intro K Q hK
       simp only [putE, updAll, Act.put, sl1, sl2, sl3, sl4] at hK ⊢
       go_wp2_with (go_at_call 20; refine (batch_any x.t HX.out.t _).mono ?_; rintro en w9 ⟨rfl, hb9⟩)
       all_goals (have hm : RcV (fun W => W.heap[X]? = some (.cells (smC x).toArray 43 (0, 0)) ∧ W.cell? ⟨Wd, 0, none⟩ = some (.pointer (some ⟨R, 0, none⟩)) ∧ W.cell? ⟨Wd, 2, none⟩ = some (.int .i64 (atW S x)) ∧ Wd < W.heap.size) (fun W => DoS w0 Wd R vb vk bks { S with at_ := atW S x } g vp (.slice ap S.packs.length cp9) (.slice am S.mods.length cm9) vbt vmk X x W) (fun W => WdE w0 Wd R vb vk bks { ({ S with at_ := atW S x } : WdS) with a := (recallA S.a (byW x : Int) (atW S x) (batchP x.t) 0 (x.m : Int) fireT).2.2 } W) (.string (batchP x.t)) C9 true false b2 ((.string (batchP x.t))) (v1) (v2) w9 := ⟨⟨blk_step hp.1 hb9, blk_cell (hs.step hb9).h.blk rfl, blk_cell (hs.step hb9).h.blk rfl, blk_lt (hs.step hb9).h.blk⟩, (fun _ => hs.step hb9), (fun e => by cases e), (fun _ => rfl), (fun e => by cases e), (fun e => by cases e), h.r2⟩)
       all_goals (first | exact hK _ _ hm | exact hm)
      case q3_15 =>
       intro bsE vsE W hlb hlv hnd hbk h
       obtain ⟨b0, b1, b2, b3, b4, rfl⟩ := ll5 hlb
       obtain ⟨v0, v1, v2, v3, v4, rfl⟩ := ll5 hlv
       obtain rfl : b0 = true := hnd 0 (by simp)
       obtain rfl : b1 = false := hbk
       replace h : RcV (fun W => W.heap[X]? = some (.cells (smC x).toArray 43 (0, 0)) ∧ W.cell? ⟨Wd, 0, none⟩ = some (.pointer (some ⟨R, 0, none⟩)) ∧ W.cell? ⟨Wd, 2, none⟩ = some (.int .i64 (atW S x)) ∧ Wd < W.heap.size) (fun W => DoS w0 Wd R vb vk bks { S with at_ := atW S x } g vp (.slice ap S.packs.length cp9) (.slice am S.mods.length cm9) vbt vmk X x W) (fun W => WdE w0 Wd R vb vk bks { ({ S with at_ := atW S x } : WdS) with a := (recallA S.a (byW x : Int) (atW S x) (batchP x.t) 0 (x.m : Int) fireT).2.2 } W) (.string (batchP x.t)) C9 true false b2 (v0) (v1) (v2) W := h
       clear hnd
       have HST := Lib.hid h
       obtain rfl := h.r0 rfl; have hs := h.a rfl; have hp := h.p
       intro K Q hK
       simp only [putE, updAll, Act.put, sl1, sl2, sl3, sl4] at hK ⊢
       go_wp2_with (go_at_call 19; refine (CE.out _ hs).mono ?_; rintro en w9 ⟨v', rfl, -, hN⟩)
       all_goals (have hz := hs.h.moved hN)
       all_goals (have hm : RcV (fun W => W.heap[X]? = some (.cells (smC x).toArray 43 (0, 0)) ∧ W.cell? ⟨Wd, 0, none⟩ = some (.pointer (some ⟨R, 0, none⟩)) ∧ W.cell? ⟨Wd, 2, none⟩ = some (.int .i64 (atW S x)) ∧ Wd < W.heap.size) (fun W => DoS w0 Wd R vb vk bks { S with at_ := atW S x } g vp (.slice ap S.packs.length cp9) (.slice am S.mods.length cm9) vbt vmk X x W) (fun W => WdE w0 Wd R vb vk bks { ({ S with at_ := atW S x } : WdS) with a := (recallA S.a (byW x : Int) (atW S x) (batchP x.t) 0 (x.m : Int) fireT).2.2 } W) (.string (batchP x.t)) C9 true true b2 ((.string (batchP x.t))) ((.tuple #[v', .int .i64 C9])) (v2) w9 := ⟨⟨(by obtain ⟨g', vp', m1, m2⟩ := hN; exact m2.keepT hs.h.v.ra _ _ _ _ hp.1 (by decide) (by decide) (by decide)), (by obtain ⟨g9, a9, b9, c9, d9, e9, h9⟩ := hz; exact blk_cell h9.blk rfl), (by obtain ⟨g9, a9, b9, c9, d9, e9, h9⟩ := hz; exact blk_cell h9.blk rfl), (by obtain ⟨g9, a9, b9, c9, d9, e9, h9⟩ := hz; exact blk_lt h9.blk)⟩, (fun e => by cases e), (fun _ => hz), (fun _ => rfl), (fun e => by cases e), (fun _ => ⟨v', rfl⟩), h.r2⟩)
       all_goals (first | exact hK _ _ hm | exact hm)
      case q3_16 =>
       intro bsE vsE W hlb hlv hnd hbk h
       obtain ⟨b0, b1, b2, b3, b4, rfl⟩ := ll5 hlb
       obtain ⟨v0, v1, v2, v3, v4, rfl⟩ := ll5 hlv
       obtain rfl : b1 = true := hnd 1 (by simp)
       obtain rfl : b2 = false := hbk
       replace h : RcV (fun W => W.heap[X]? = some (.cells (smC x).toArray 43 (0, 0)) ∧ W.cell? ⟨Wd, 0, none⟩ = some (.pointer (some ⟨R, 0, none⟩)) ∧ W.cell? ⟨Wd, 2, none⟩ = some (.int .i64 (atW S x)) ∧ Wd < W.heap.size) (fun W => DoS w0 Wd R vb vk bks { S with at_ := atW S x } g vp (.slice ap S.packs.length cp9) (.slice am S.mods.length cm9) vbt vmk X x W) (fun W => WdE w0 Wd R vb vk bks { ({ S with at_ := atW S x } : WdS) with a := (recallA S.a (byW x : Int) (atW S x) (batchP x.t) 0 (x.m : Int) fireT).2.2 } W) (.string (batchP x.t)) C9 b0 true false (v0) (v1) (v2) W := h
       clear hnd
       have HST := Lib.hid h
       obtain ⟨vt, rfl⟩ := h.r1 rfl
       intro K Q hK
       simp only [putE, updAll, Act.put, sl1, sl2, sl3, sl4] at hK ⊢
       go_wp2_with fail
       all_goals (have hm : RcV (fun W => W.heap[X]? = some (.cells (smC x).toArray 43 (0, 0)) ∧ W.cell? ⟨Wd, 0, none⟩ = some (.pointer (some ⟨R, 0, none⟩)) ∧ W.cell? ⟨Wd, 2, none⟩ = some (.int .i64 (atW S x)) ∧ Wd < W.heap.size) (fun W => DoS w0 Wd R vb vk bks { S with at_ := atW S x } g vp (.slice ap S.packs.length cp9) (.slice am S.mods.length cm9) vbt vmk X x W) (fun W => WdE w0 Wd R vb vk bks { ({ S with at_ := atW S x } : WdS) with a := (recallA S.a (byW x : Int) (atW S x) (batchP x.t) 0 (x.m : Int) fireT).2.2 } W) (.string (batchP x.t)) C9 b0 true true (v0) ((.tuple #[vt, .int .i64 C9])) ((.tuple #[vt, .int .i64 C9])) W := ⟨h.p, h.a, h.z, h.r0, h.n, h.r1, (fun _ => ⟨vt, rfl⟩)⟩)
       all_goals (first | exact hK _ _ hm | exact hm)
      case q3_17 =>
       intro bsE vsE W hlb hlv hnd hbk h
       obtain ⟨b0, b1, b2, b3, b4, rfl⟩ := ll5 hlb
       obtain ⟨v0, v1, v2, v3, v4, rfl⟩ := ll5 hlv
       obtain rfl : b2 = true := hnd 2 (by simp)
       obtain rfl : b3 = false := hbk
       replace h : RcV (fun W => W.heap[X]? = some (.cells (smC x).toArray 43 (0, 0)) ∧ W.cell? ⟨Wd, 0, none⟩ = some (.pointer (some ⟨R, 0, none⟩)) ∧ W.cell? ⟨Wd, 2, none⟩ = some (.int .i64 (atW S x)) ∧ Wd < W.heap.size) (fun W => DoS w0 Wd R vb vk bks { S with at_ := atW S x } g vp (.slice ap S.packs.length cp9) (.slice am S.mods.length cm9) vbt vmk X x W) (fun W => WdE w0 Wd R vb vk bks { ({ S with at_ := atW S x } : WdS) with a := (recallA S.a (byW x : Int) (atW S x) (batchP x.t) 0 (x.m : Int) fireT).2.2 } W) (.string (batchP x.t)) C9 b0 b1 true (v0) (v1) (v2) W := h
       clear hnd
       have HST := Lib.hid h
       obtain ⟨vt, rfl⟩ := h.r2 rfl
       intro K Q hK
       simp only [putE, updAll, Act.put, sl1, sl2, sl3, sl4] at hK ⊢
       go_wp2_with fail
       all_goals (have hm : RcV (fun W => W.heap[X]? = some (.cells (smC x).toArray 43 (0, 0)) ∧ W.cell? ⟨Wd, 0, none⟩ = some (.pointer (some ⟨R, 0, none⟩)) ∧ W.cell? ⟨Wd, 2, none⟩ = some (.int .i64 (atW S x)) ∧ Wd < W.heap.size) (fun W => DoS w0 Wd R vb vk bks { S with at_ := atW S x } g vp (.slice ap S.packs.length cp9) (.slice am S.mods.length cm9) vbt vmk X x W) (fun W => WdE w0 Wd R vb vk bks { ({ S with at_ := atW S x } : WdS) with a := (recallA S.a (byW x : Int) (atW S x) (batchP x.t) 0 (x.m : Int) fireT).2.2 } W) (.string (batchP x.t)) C9 b0 b1 true (v0) (v1) ((.tuple #[vt, .int .i64 C9])) W := h)
       all_goals (first | exact hK _ _ hm | exact hm)
      case q3_18 =>
       intro bsE vsE W hlb hlv hnd h
       obtain ⟨b0, b1, b2, b3, b4, rfl⟩ := ll5 hlb
       obtain ⟨v0, v1, v2, v3, v4, rfl⟩ := ll5 hlv
       obtain rfl : b2 = true := hnd 2 (by simp)
       replace h : RcV (fun W => W.heap[X]? = some (.cells (smC x).toArray 43 (0, 0)) ∧ W.cell? ⟨Wd, 0, none⟩ = some (.pointer (some ⟨R, 0, none⟩)) ∧ W.cell? ⟨Wd, 2, none⟩ = some (.int .i64 (atW S x)) ∧ Wd < W.heap.size) (fun W => DoS w0 Wd R vb vk bks { S with at_ := atW S x } g vp (.slice ap S.packs.length cp9) (.slice am S.mods.length cm9) vbt vmk X x W) (fun W => WdE w0 Wd R vb vk bks { ({ S with at_ := atW S x } : WdS) with a := (recallA S.a (byW x : Int) (atW S x) (batchP x.t) 0 (x.m : Int) fireT).2.2 } W) (.string (batchP x.t)) C9 b0 b1 true (v0) (v1) (v2) W := h
       clear hnd
       have HST := Lib.hid h
       obtain ⟨vt, rfl⟩ := h.r2 rfl
       intro K Q hK
       simp only [putE, updAll, Act.put, sl1, sl2, sl3, sl4] at hK ⊢
       go_wp2_with (fail)
       all_goals (first | exact hK _ h | exact h)
      case q3_19 =>
       intro bsE vsE W hlb hlv hnd hbk h
       obtain ⟨b0, b1, b2, b3, b4, rfl⟩ := ll5 hlb
       obtain ⟨v0, v1, v2, v3, v4, rfl⟩ := ll5 hlv
       obtain rfl : b3 = true := hnd 3 (by simp)
       obtain rfl : b4 = false := hbk
       replace h : RcV (fun W => W.heap[X]? = some (.cells (smC x).toArray 43 (0, 0)) ∧ W.cell? ⟨Wd, 0, none⟩ = some (.pointer (some ⟨R, 0, none⟩)) ∧ W.cell? ⟨Wd, 2, none⟩ = some (.int .i64 (atW S x)) ∧ Wd < W.heap.size) (fun W => DoS w0 Wd R vb vk bks { S with at_ := atW S x } g vp (.slice ap S.packs.length cp9) (.slice am S.mods.length cm9) vbt vmk X x W) (fun W => WdE w0 Wd R vb vk bks { ({ S with at_ := atW S x } : WdS) with a := (recallA S.a (byW x : Int) (atW S x) (batchP x.t) 0 (x.m : Int) fireT).2.2 } W) (.string (batchP x.t)) C9 b0 b1 b2 (v0) (v1) (v2) W := h
       clear hnd
       have HST := Lib.hid h
       skip
       intro K Q hK
       simp only [putE, updAll, Act.put, sl1, sl2, sl3, sl4] at hK ⊢
       go_wp2_with fail
       all_goals (have hm : RcV (fun W => W.heap[X]? = some (.cells (smC x).toArray 43 (0, 0)) ∧ W.cell? ⟨Wd, 0, none⟩ = some (.pointer (some ⟨R, 0, none⟩)) ∧ W.cell? ⟨Wd, 2, none⟩ = some (.int .i64 (atW S x)) ∧ Wd < W.heap.size) (fun W => DoS w0 Wd R vb vk bks { S with at_ := atW S x } g vp (.slice ap S.packs.length cp9) (.slice am S.mods.length cm9) vbt vmk X x W) (fun W => WdE w0 Wd R vb vk bks { ({ S with at_ := atW S x } : WdS) with a := (recallA S.a (byW x : Int) (atW S x) (batchP x.t) 0 (x.m : Int) fireT).2.2 } W) (.string (batchP x.t)) C9 b0 b1 b2 (v0) (v1) (v2) W := h)
       all_goals (first | exact hK _ _ hm | exact hm)
      all_goals
       intro bsE vsE W hlb hlv hnd h
       obtain ⟨b0, b1, b2, b3, b4, rfl⟩ := ll5 hlb
       obtain ⟨v0, v1, v2, v3, v4, rfl⟩ := ll5 hlv
       replace h : RcV (fun W => W.heap[X]? = some (.cells (smC x).toArray 43 (0, 0)) ∧ W.cell? ⟨Wd, 0, none⟩ = some (.pointer (some ⟨R, 0, none⟩)) ∧ W.cell? ⟨Wd, 2, none⟩ = some (.int .i64 (atW S x)) ∧ Wd < W.heap.size) (fun W => DoS w0 Wd R vb vk bks { S with at_ := atW S x } g vp (.slice ap S.packs.length cp9) (.slice am S.mods.length cm9) vbt vmk X x W) (fun W => WdE w0 Wd R vb vk bks { ({ S with at_ := atW S x } : WdS) with a := (recallA S.a (byW x : Int) (atW S x) (batchP x.t) 0 (x.m : Int) fireT).2.2 } W) (.string (batchP x.t)) C9 b0 b1 b2 (v0) (v1) (v2) W := h
       clear hnd
       have HST := Lib.hid h
       obtain ⟨gx, g0, g2, gl⟩ := h.p; have x3 := blk_cell (o := 3) gx rfl; have x4 := blk_cell (o := 4) gx rfl; have xl := blk_lt gx; clear gx
       intro K Q hK
       simp only [putE, updAll, Act.put, sl1, sl2, sl3, sl4] at hK ⊢
       go_wp2_with (fail)
       all_goals (first | exact hK _ h | exact h)
     case done =>
      intro vsE W hlv h
      obtain ⟨v0, v1, v2, v3, v4, rfl⟩ := ll5 hlv
      replace h : RcV (fun W => W.heap[X]? = some (.cells (smC x).toArray 43 (0, 0)) ∧ W.cell? ⟨Wd, 0, none⟩ = some (.pointer (some ⟨R, 0, none⟩)) ∧ W.cell? ⟨Wd, 2, none⟩ = some (.int .i64 (atW S x)) ∧ Wd < W.heap.size) (fun W => DoS w0 Wd R vb vk bks { S with at_ := atW S x } g vp (.slice ap S.packs.length cp9) (.slice am S.mods.length cm9) vbt vmk X x W) (fun W => WdE w0 Wd R vb vk bks { ({ S with at_ := atW S x } : WdS) with a := (recallA S.a (byW x : Int) (atW S x) (batchP x.t) 0 (x.m : Int) fireT).2.2 } W) (.string (batchP x.t)) C9 true true true (v0) (v1) (v2) W := h
      have HST := Lib.hid h
      have HZ := Lib.hid (h.z rfl)
      clear h HST
      simp only [putE, updAll, Act.put, sl1, sl2, sl3, sl4]
      go_wp2_with fail
      exact bodyPost_ret (v := .bool (C9 == 0)) (by simp only [results, Tryz.results15]; go_simp) rfl ⟨by unfold okW; rw [HRS.out, HC9.out], by rw [HDO.out]; unfold baseW; rw [HRS.out]; exact HZ.out⟩
end Go.Proofs.YtmpilgkfbibhlaaGreatDoor
namespace Go.Proofs.YtmpilgkfbibhlaaGreatDoor
open Sx Go.RowKit Mr
theorem do_head {w0 w : World} {Wd R : Nat} {vb vk : Value} {bks : List Bk} {S : WdS} (h : WdE w0 Wd R vb vk bks S w) (ho : OkA S.a) (hG : Glob0 w0) (x : Sm) (hx : SmOk x) (ha : 0 ≤ S.at_ ∧ S.at_ ≤ 1000000) (hl : S.packs.length ≤ 1000 ∧ S.mods.length ≤ 10000) (hl2 : S.bts.length ≤ 1000 ∧ S.mds.length ≤ 1000) (hsz : (packW S x).size ≤ 1000000 ∧ (toW S x).size ≤ 1000000 ∧ (modW S x).size ≤ 1000000) :
  Calls Tryz.prog 15 #[.pointer (some ⟨Wd, 0, none⟩), .agg #[.int .u8 (x.do_ : Int), .int .u8 (x.by_ : Int), .int .u8 (x.p : Int), .int .u8 (x.m : Int), .int .u8 (x.t : Int), .int .u16 (x.n : Int), .int .u8 (x.later : Int)]] w fun en w' => en = .returned (.bool (okW S x)) ∧ WdE w0 Wd R vb vk bks (doW S x) w' := by
 have h11 : x.do_ % 11 < 11 := Nat.mod_lt _ (by decide)
 by_cases c : x.do_ % 11 < 3
 ·exact do_made h ho hG x hx ha hl hl2 hsz c
 ·by_cases c2 : x.do_ % 11 = 6 ∨ x.do_ % 11 = 7 ∨ x.do_ % 11 = 8
  ·exact do_move h ho hG x hx ha hl hl2 hsz c2
  ·exact do_enter h ho hG x hx ha hl hl2 hsz (by omega)
end Go.Proofs.YtmpilgkfbibhlaaGreatDoor
