/-
 enter of package passport: the walk.
-/
import Derived.Test.YtmpilgkfbibhlaaGreatDoorG0R
import Derived.Test.YtmpilgkfbibhlaaGreatDoorG23R
import Derived.Test.YtmpilgkfbibhlaaGreatDoorG13R
import Derived.Lib.ParseIntB
import Derived.Lib.IndexLaws
import Derived.Lib.IndexMore
import Derived.Lib.ItoaLen
import Derived.Test.YtmpilgkfbibhlaaGreatDoorG11R
import Derived.Lib.AtoiErrMem
set_option linter.unusedSimpArgs false
set_option linter.unusedVariables false
namespace Go.Proofs.YtmpilgkfbibhlaaGreatDoor
open Sx Go.RowKit Mr
structure OneS (P C0 C1 : World → Prop) (b : Bool) (W : World) : Prop where
 p : P W
 a : b = false → C0 W
 z : b = true → C1 W
def Entered (X : Value → Value → Prop) (B R : Nat) (g : RegS) (vb vp : Value) (PB i n u : Nat) (q : PkV) (y : Ent) (e : Evt) (w w' : World) : Prop :=
 ∃ vm' vo' v', RegAt B R { g with used := g.used.set n (u + 1), qs := g.qs.set i { q with es := q.es ++ [y], ve := v', hd := y.2.2.2.1, life := q.life.add q.nm e, vm := vm', vo := vo' } } vb vp w' ∧
  KeepB (fun k => k = R ∨ k = PB ∨ q.ve.ownBlock = some k) w w' ∧ (v'.ownBlock = q.ve.ownBlock ∨ ∃ k9, w.heap.size ≤ k9 ∧ v'.ownBlock = some k9) ∧ X vm' vo'
set_option maxHeartbeats 8000000 in
set_option maxRecDepth 20000 in
theorem enter_gen {X : Value → Value → Prop} {B R : Nat} {g : RegS} {vb : Value} {w : World} {PB cp i n u pd cb bb ob : Nat} {q : PkV} {bk : Bk} (h : RegAt B R g vb (.slice (some ⟨PB, 0, none⟩) g.qs.length cp) w) (hq : g.qs[i]? = some q) (hvb : vb = .slice (some ⟨bb, ob, none⟩) g.bks.length cb) (hbk : g.bks[n]? = some bk) (hu : g.used.getD n 0 = u) (hpd : bk.2[u]? = some pd)
  (e : Evt) (hok : okX e = true) (hsz : e.2.2.2.2.1.size ≤ 100 ∧ e.2.2.2.2.2.size ≤ 100) (hsec : secR g.pt g.bks = 0) (hes : q.es.length ≤ 100000) (hCA : ∀ W, w.heap.size ≤ W.heap.size → LifeAt 116 PB (i * 20) q.nm q.life q.vm q.vo W → (q.life.n = 0 → q.vm = .slice none 0 0 ∧ q.life.ms = []) → Calls Tryz.prog 46 #[.pointer (some ⟨PB, i * 20, none⟩), evX e] W fun en w' => en = .returned (.tuple #[]) ∧ ∃ vm' vo', LifeAt 116 PB (i * 20) q.nm (q.life.add q.nm e) vm' vo' w' ∧ OnlyB 116 PB (i * 20) 18 W w' ∧ X vm' vo') :
  Calls Tryz.prog 65 #[.pointer (some ⟨R, 0, none⟩), .int .i64 (n : Int), .pointer (some ⟨PB, i * 20, none⟩), evX e] w fun en w' => en = .returned (.tuple #[]) ∧ Entered X B R g vb (.slice (some ⟨PB, 0, none⟩) g.qs.length cp) PB i n u q (nextE g.pt g.bks q.hd e n u) e w w' := by
 obtain ⟨hb1, hb8, hbks⟩ := secR_ok hsec
 have hbd := hbks bk (List.mem_of_getElem? hbk)
 have hn8 : n < 8 := by have := (List.getElem?_eq_some_iff.1 hbk).1; omega
 have hn0 : (0 : Int) ≤ n := by omega
 have hn8i : (n : Int) < 8 := by omega
 have hu5 : (u : Int) ≤ 5000 := by have := (List.getElem?_eq_some_iff.1 hpd).1; have := hbd.2.1; omega
 have hu0 : (0 : Int) ≤ u := by omega
 obtain ⟨ab, cb2, evb, hBk⟩ := h.bk
 rw [hvb] at evb
 cases evb
 obtain ⟨hL, hhd, hve⟩ := h.life rfl hq
 obtain ⟨c0, c1, -, cl, cu⟩ := h.cells
 have cun := cu n hn8
 rw [hu] at cun
 subst hvb
 obtain ⟨y, hy⟩ : ∃ y, nextE g.pt g.bks q.hd e n u = y := ⟨_, rfl⟩
 have hPl := hL.lt
 have HC := Lib.hid (And.intro c0 (And.intro c1 (And.intro cun hhd)))
 have HLT := Lib.hid (And.intro cl hPl)
 have CN : Hid (∀ W, Below w.heap.size w W → Calls Tryz.prog 45 #[.pointer (some ⟨PB, i * 20 + 18, none⟩), .int .u64 (g.pt : Int), .slice (some ⟨bb, ob, none⟩) g.bks.length cb, evX e, .int .i64 (n : Int), .int .i64 (u : Int)] W fun en w' => en = .returned (entX y) ∧ Below W.heap.size W w') := fun W hW => by
  rw [← hy]
  exact Next_any g.pt cb PB (i * 20 + 18) q.hd n u pd bk e hok hsz ((KeepT.of_below hW).books hBk).at_ (cell_step hhd hW) (Nat.lt_of_lt_of_le hPl hW.size) hbk hb8.2 hpd (by omega) (by have := hb1.2; unfold P31 at this; omega) (by have := hbd.1.2; unfold P31 at this; omega) (by have := hbd.2.2 pd (List.mem_of_getElem? hpd); unfold P31 at this; omega)
 have H := Lib.hid h
 have HES := Lib.hid hes
 rw [hy]
 have CA := Lib.hid hCA
 obtain ⟨k, t, ea, eb, nm, ot⟩ := e
 replace CN : Hid (∀ W, Below w.heap.size w W → Calls Tryz.prog 45 #[.pointer (some ⟨PB, i * 20 + 18, none⟩), .int .u64 (g.pt : Int), .slice (some ⟨bb, ob, none⟩) g.bks.length cb, .agg #[.int .i64 k, .int .i64 t, .int .i64 ea, .int .i64 eb, .string nm, .string ot], .int .i64 (n : Int), .int .i64 (u : Int)] W fun en w' => en = .returned (entX y) ∧ Below W.heap.size W w') := CN
 replace CA : Hid (∀ W, w.heap.size ≤ W.heap.size → LifeAt 116 PB (i * 20) q.nm q.life q.vm q.vo W → (q.life.n = 0 → q.vm = .slice none 0 0 ∧ q.life.ms = []) → Calls Tryz.prog 46 #[.pointer (some ⟨PB, i * 20, none⟩), .agg #[.int .i64 k, .int .i64 t, .int .i64 ea, .int .i64 eb, .string nm, .string ot]] W fun en w' => en = .returned (.tuple #[]) ∧ ∃ vm' vo', LifeAt 116 PB (i * 20) q.nm (q.life.add q.nm (k, t, ea, eb, nm, ot)) vm' vo' w' ∧ OnlyB 116 PB (i * 20) 18 W w' ∧ X vm' vo') := CA
 change Calls Tryz.prog 65 #[.pointer (some ⟨R, 0, none⟩), .int .i64 (n : Int), .pointer (some ⟨PB, i * 20, none⟩), .agg #[.int .i64 k, .int .i64 t, .int .i64 ea, .int .i64 eb, .string nm, .string ot]] w _
 have HX := Lib.hid (blk_new w (.cells #[.int .i64 k, .int .i64 t, .int .i64 ea, .int .i64 eb, .string nm, .string ot] 29))
 have HB0 := Lib.hid (bAl (W := w) (o := (.cells #[.int .i64 k, .int .i64 t, .int .i64 ea, .int .i64 eb, .string nm, .string ot] 29)))
 clear h c0 c1 cun hhd hve hL cu hBk hPl cl hb1 hb8 hbks hbd hok hsz hsec hbk hpd hCA
 go_enter Tryz.func65, Tryz.ntmps65
 go_upto_region 1 with fail
 generalize w.alloc (.cells #[.int .i64 k, .int .i64 t, .int .i64 ea, .int .i64 eb, .string nm, .string ot] 29) = w0 at *
 refine region_all 22 22 60 [(20, 8), (21, 61)] [(none, []), (none, []), (none, []), (none, []), (none, []), (none, []), (none, []), (none, []), (none, []), (none, []), (none, []), (none, []), (none, []), (none, []), (none, []), (none, []), (none, []), (none, []), (none, []), (none, []), (some 0, []), (some 1, [0])] [(9, (.pointer (some ⟨PB, i * 20, none⟩))), (10, (.pointer (some ⟨PB, i * 20, none⟩))), (11, (.pointer (some ⟨PB, i * 20 + 18, none⟩))), (12, (.pointer (some ⟨R, 0, none⟩))), (13, (.pointer (some ⟨R, 0, none⟩))), (14, (.pointer (some ⟨R, 0, none⟩))), (15, (.int .u64 (g.pt : Int))), (16, (.pointer (some ⟨R, 0, none⟩))), (17, (.pointer (some ⟨R, 0, none⟩))), (18, (.pointer (some ⟨R, 1, none⟩))), (19, (.slice (some ⟨bb, ob, none⟩) g.bks.length cb)), (20, (.agg #[.int .i64 k, .int .i64 t, .int .i64 ea, .int .i64 eb, .string nm, .string ot])), (21, (.int .i64 (n : Int))), (22, (.pointer (some ⟨R, 0, none⟩))), (23, (.int .i64 (n : Int))), (24, (.pointer (some ⟨R, 0, none⟩))), (25, (.pointer (some ⟨R, 2, none⟩))), (26, (.pointer (some ⟨R, 2 + n, none⟩))), (27, (.int .i64 (u : Int))), (28, (entX y))] (fun bsE vsE W => EnS w0 y (bsE.getD 0 false) (bsE.getD 1 false) ((vsE.getD 0 undef)) W) (by kernel_rfl) (by kernel_rfl) rfl rfl (by kernel_rfl) (by rfl) ?h0 ?each ?done
 case h0 =>
  intro vsE hlv
  obtain ⟨v0, v1, rfl⟩ := ll2 hlv
  exact ⟨(Below.refl _ _).drew, (fun e => by cases e), (fun _ => rfl)⟩
 case each =>
  simp only [AllE]
  refine ⟨⟨9, (.pointer (some ⟨PB, i * 20, none⟩)), rfl, by kernel_rfl, ?_⟩, ⟨10, (.pointer (some ⟨PB, i * 20, none⟩)), rfl, by kernel_rfl, ?_⟩, ⟨11, (.pointer (some ⟨PB, i * 20 + 18, none⟩)), rfl, by kernel_rfl, ?_⟩, ⟨12, (.pointer (some ⟨R, 0, none⟩)), rfl, by kernel_rfl, ?_⟩, ⟨13, (.pointer (some ⟨R, 0, none⟩)), rfl, by kernel_rfl, ?_⟩, ⟨14, (.pointer (some ⟨R, 0, none⟩)), rfl, by kernel_rfl, ?_⟩, ⟨15, (.int .u64 (g.pt : Int)), rfl, by kernel_rfl, ?_⟩, ⟨16, (.pointer (some ⟨R, 0, none⟩)), rfl, by kernel_rfl, ?_⟩, ⟨17, (.pointer (some ⟨R, 0, none⟩)), rfl, by kernel_rfl, ?_⟩, ⟨18, (.pointer (some ⟨R, 1, none⟩)), rfl, by kernel_rfl, ?_⟩, ⟨19, (.slice (some ⟨bb, ob, none⟩) g.bks.length cb), rfl, by kernel_rfl, ?_⟩, ⟨20, (.agg #[.int .i64 k, .int .i64 t, .int .i64 ea, .int .i64 eb, .string nm, .string ot]), rfl, by kernel_rfl, ?_⟩, ⟨21, (.int .i64 (n : Int)), rfl, by kernel_rfl, ?_⟩, ⟨22, (.pointer (some ⟨R, 0, none⟩)), rfl, by kernel_rfl, ?_⟩, ⟨23, (.int .i64 (n : Int)), rfl, by kernel_rfl, ?_⟩, ⟨24, (.pointer (some ⟨R, 0, none⟩)), rfl, by kernel_rfl, ?_⟩, ⟨25, (.pointer (some ⟨R, 2, none⟩)), rfl, by kernel_rfl, ?_⟩, ⟨26, (.pointer (some ⟨R, 2 + n, none⟩)), rfl, by kernel_rfl, ?_⟩, ⟨27, (.int .i64 (u : Int)), rfl, by kernel_rfl, ?_⟩, ⟨28, (entX y), rfl, by kernel_rfl, ?q4_19⟩, Or.inl ⟨8, rfl, ?q4_20⟩, Or.inr ⟨rfl, ?q4_21⟩, trivial⟩
  case q4_19 =>
   intro bsE vsE W hlb hlv hnd h
   obtain ⟨b0, b1, rfl⟩ := ll2 hlb
   obtain ⟨v0, v1, rfl⟩ := ll2 hlv
   replace h : EnS w0 y b0 b1 (v0) W := h
   clear hnd
   have HST := Lib.hid h
   have hbw := bStep HB0.out h.bel; have c0 := cell_step HC.out.1 hbw; have c1 := cell_step HC.out.2.1 hbw; have c2 := cell_step HC.out.2.2.1 hbw; have c3 := cell_step HC.out.2.2.2 hbw; have l1 := Nat.lt_of_lt_of_le HLT.out.1 hbw.size; have l2 := Nat.lt_of_lt_of_le HLT.out.2 hbw.size; have HXW := blk_step HX.out h.bel; have x0 := blk_cell (o := 0) HXW rfl; have x1 := blk_cell (o := 1) HXW rfl; have x2 := blk_cell (o := 2) HXW rfl; have x3 := blk_cell (o := 3) HXW rfl; have x4 := blk_cell (o := 4) HXW rfl; have x5 := blk_cell (o := 5) HXW rfl; have xl := blk_lt HXW; clear HXW hbw
   intro K Q hK
   simp only [putE, updAll, Act.put, sl1, sl2, sl3, sl4] at hK ⊢
   go_wp2_with (go_at_call 45; refine (CN.out _ (bStep HB0.out h.bel)).mono ?_; rintro e w9 ⟨rfl, hb9⟩)
   all_goals (first | exact hK _ (h.step hb9) | exact (h.step hb9))
  case q4_20 =>
   intro bsE vsE W hlb hlv hnd hbk h
   obtain ⟨b0, b1, rfl⟩ := ll2 hlb
   obtain ⟨v0, v1, rfl⟩ := ll2 hlv
   obtain rfl : b0 = false := hbk
   replace h : EnS w0 y false b1 (v0) W := h
   clear hnd
   have HST := Lib.hid h
   obtain rfl := h.n rfl
   intro K Q hK
   simp only [putE, updAll, Act.put, sl1, sl2, sl3, sl4] at hK ⊢
   go_wp2_with fail
   all_goals (have hm := h.mk0)
   all_goals (first | exact hK _ _ hm | exact hm)
  case q4_21 =>
   intro bsE vsE W hlb hlv hnd hbk h
   obtain ⟨b0, b1, rfl⟩ := ll2 hlb
   obtain ⟨v0, v1, rfl⟩ := ll2 hlv
   obtain rfl : b0 = true := hnd 0 (by simp)
   obtain rfl : b1 = false := hbk
   replace h : EnS w0 y true false (v0) W := h
   clear hnd
   have HST := Lib.hid h
   obtain ⟨r, er, hr1, hr2⟩ := h.bx rfl; subst er
   intro K Q hK
   simp only [putE, updAll, Act.put, sl1, sl2, sl3, sl4] at hK ⊢
   refine wp_store_mid 31 (.tmp 8) (.tmp 28) rfl r 0 (entC y).toArray rfl rfl (by have h9 := ent_there2 hr2; simpa [entC_len] using h9) (by rw [ent_size]; simp [entC_len]) (entC_one y) ?_
   exact hK _ h.put
  all_goals
   intro bsE vsE W hlb hlv hnd h
   obtain ⟨b0, b1, rfl⟩ := ll2 hlb
   obtain ⟨v0, v1, rfl⟩ := ll2 hlv
   replace h : EnS w0 y b0 b1 (v0) W := h
   clear hnd
   have HST := Lib.hid h
   have hbw := bStep HB0.out h.bel; have c0 := cell_step HC.out.1 hbw; have c1 := cell_step HC.out.2.1 hbw; have c2 := cell_step HC.out.2.2.1 hbw; have c3 := cell_step HC.out.2.2.2 hbw; have l1 := Nat.lt_of_lt_of_le HLT.out.1 hbw.size; have l2 := Nat.lt_of_lt_of_le HLT.out.2 hbw.size; have HXW := blk_step HX.out h.bel; have x0 := blk_cell (o := 0) HXW rfl; have x1 := blk_cell (o := 1) HXW rfl; have x2 := blk_cell (o := 2) HXW rfl; have x3 := blk_cell (o := 3) HXW rfl; have x4 := blk_cell (o := 4) HXW rfl; have x5 := blk_cell (o := 5) HXW rfl; have xl := blk_lt HXW; clear HXW hbw
   intro K Q hK
   simp only [putE, updAll, Act.put, sl1, sl2, sl3, sl4] at hK ⊢
   go_wp2_with (fail)
   all_goals (first | exact hK _ h | exact h)
 case done =>
  intro vsE W hlv h
  obtain ⟨v0, v1, rfl⟩ := ll2 hlv
  replace h : EnS w0 y true true (v0) W := h
  have HST := Lib.hid h
  have HF := Lib.hid h
  clear h HST
  simp only [putE, updAll, Act.put, sl1, sl2, sl3, sl4]
  obtain ⟨r, er, hr1, hr2⟩ := HF.out.bx rfl
  subst er
  have hr3 : W.heap[r]? = some (.cells (entC y).toArray 31 (0, 0)) := hr2
  have HRW := Lib.hid hr1
  have HE1 : Hid (EnC B R g (.slice (some ⟨bb, ob, none⟩) g.bks.length cb) (.slice (some ⟨PB, 0, none⟩) g.qs.length cp) y r w.heap.size (k, t, ea, eb, nm, ot) (fun k => k = R ∨ k = PB ∨ q.ve.ownBlock = some k) w W) := ⟨H.out.step (bStep HB0.out HF.out.bel), hr3, blk_step HX.out HF.out.bel, KeepB.of_below (bStep HB0.out HF.out.bel)⟩
  have HN8 := Lib.hid hn8
  have HU := Lib.hid hu
  have HQ := Lib.hid hq
  have HQM := Lib.hid (List.mem_of_getElem? hq)
  have HRN : Hid (∀ k, q.ve.ownBlock = some k → k ≠ r) := fun k hk e => by have h1 := (World.ownsRow.lt (H.out.es q HQM.out) k hk).2; have h2 := HRW.out; have h3 := HB0.out.size; omega
  clear hr1 hr2 hr3 HF HC HLT
  go_upto_region 2 with fail
  refine region_all 11 11 60 [(5, 34), (10, 61)] [(none, []), (none, []), (none, []), (none, []), (none, []), (some 0, []), (none, [0]), (none, []), (none, []), (none, []), (some 1, [0])] [(29, (.pointer (some ⟨R, 0, none⟩))), (30, (.int .i64 (n : Int))), (31, (.pointer (some ⟨R, 0, none⟩))), (32, (.pointer (some ⟨R, 2, none⟩))), (33, (.pointer (some ⟨R, 2 + n, none⟩))), (35, (.int .i64 ((u : Int) + 1))), (36, (.pointer (some ⟨R, 0, none⟩))), (37, (.pointer (some ⟨R, 2, none⟩))), (38, (.pointer (some ⟨R, 2 + n, none⟩)))] (fun bsE vsE W => RmS (fun q9 W => EnC B R (bif q9 then { g with used := g.used.set n (u + 1) } else g) (.slice (some ⟨bb, ob, none⟩) g.bks.length cb) (.slice (some ⟨PB, 0, none⟩) g.qs.length cp) y r w.heap.size (k, t, ea, eb, nm, ot) (fun k => k = R ∨ k = PB ∨ q.ve.ownBlock = some k) w W) (.int .i64 (u : Int)) (bsE.getD 0 false) (bsE.getD 1 false) ((vsE.getD 0 undef)) W) (by kernel_rfl) (by kernel_rfl) rfl rfl (by kernel_rfl) (by rfl) ?h0 ?each ?done
  case h0 =>
   intro vsE hlv
   obtain ⟨v0, v1, rfl⟩ := ll2 hlv
   exact ⟨HE1.out.step (Below.refl _ _).drew, (fun e => by cases e), (fun _ => rfl)⟩
  case each =>
   simp only [AllE]
   refine ⟨⟨29, (.pointer (some ⟨R, 0, none⟩)), rfl, by kernel_rfl, ?_⟩, ⟨30, (.int .i64 (n : Int)), rfl, by kernel_rfl, ?_⟩, ⟨31, (.pointer (some ⟨R, 0, none⟩)), rfl, by kernel_rfl, ?_⟩, ⟨32, (.pointer (some ⟨R, 2, none⟩)), rfl, by kernel_rfl, ?_⟩, ⟨33, (.pointer (some ⟨R, 2 + n, none⟩)), rfl, by kernel_rfl, ?_⟩, Or.inl ⟨34, rfl, ?q3_5⟩, ⟨35, (.int .i64 ((u : Int) + 1)), rfl, by kernel_rfl, ?q3_6⟩, ⟨36, (.pointer (some ⟨R, 0, none⟩)), rfl, by kernel_rfl, ?_⟩, ⟨37, (.pointer (some ⟨R, 2, none⟩)), rfl, by kernel_rfl, ?_⟩, ⟨38, (.pointer (some ⟨R, 2 + n, none⟩)), rfl, by kernel_rfl, ?_⟩, Or.inr ⟨rfl, ?q3_10⟩, trivial⟩
   case q3_5 =>
    intro bsE vsE W hlb hlv hnd hbk h
    obtain ⟨b0, b1, rfl⟩ := ll2 hlb
    obtain ⟨v0, v1, rfl⟩ := ll2 hlv
    obtain rfl : b0 = false := hbk
    replace h : RmS (fun q9 W => EnC B R (bif q9 then { g with used := g.used.set n (u + 1) } else g) (.slice (some ⟨bb, ob, none⟩) g.bks.length cb) (.slice (some ⟨PB, 0, none⟩) g.qs.length cp) y r w.heap.size (k, t, ea, eb, nm, ot) (fun k => k = R ∨ k = PB ∨ q.ve.ownBlock = some k) w W) (.int .i64 (u : Int)) false b1 (v0) W := h
    clear hnd
    have HST := Lib.hid h
    obtain rfl := h.n rfl; have hs : EnC B R g (.slice (some ⟨bb, ob, none⟩) g.bks.length cb) (.slice (some ⟨PB, 0, none⟩) g.qs.length cp) y r w.heap.size (k, t, ea, eb, nm, ot) (fun k => k = R ∨ k = PB ∨ q.ve.ownBlock = some k) w W := h.s; have c := hs.ra.cells.2.2.2.2 n HN8.out; rw [HU.out] at c; have lB := hs.ra.cells.2.2.2.1
    intro K Q hK
    simp only [putE, updAll, Act.put, sl1, sl2, sl3, sl4] at hK ⊢
    go_wp2_with fail
    all_goals (have hN : RmS (fun q9 W => EnC B R (bif q9 then { g with used := g.used.set n (u + 1) } else g) (.slice (some ⟨bb, ob, none⟩) g.bks.length cb) (.slice (some ⟨PB, 0, none⟩) g.qs.length cp) y r w.heap.size (k, t, ea, eb, nm, ot) (fun k => k = R ∨ k = PB ∨ q.ve.ownBlock = some k) w W) (.int .i64 (u : Int)) true false ((.int .i64 (u : Int))) W := ⟨h.s, fun _ => rfl, (fun e => by cases e)⟩)
    all_goals (first | exact hK _ _ hN | exact hN)
   case q3_6 =>
    intro bsE vsE W hlb hlv hnd h
    obtain ⟨b0, b1, rfl⟩ := ll2 hlb
    obtain ⟨v0, v1, rfl⟩ := ll2 hlv
    obtain rfl : b0 = true := hnd 0 (by simp)
    replace h : RmS (fun q9 W => EnC B R (bif q9 then { g with used := g.used.set n (u + 1) } else g) (.slice (some ⟨bb, ob, none⟩) g.bks.length cb) (.slice (some ⟨PB, 0, none⟩) g.qs.length cp) y r w.heap.size (k, t, ea, eb, nm, ot) (fun k => k = R ∨ k = PB ∨ q.ve.ownBlock = some k) w W) (.int .i64 (u : Int)) true b1 (v0) W := h
    clear hnd
    have HST := Lib.hid h
    obtain rfl := h.v rfl
    intro K Q hK
    simp only [putE, updAll, Act.put, sl1, sl2, sl3, sl4] at hK ⊢
    go_wp2_with (fail)
    all_goals (first | exact hK _ h | exact h)
   case q3_10 =>
    intro bsE vsE W hlb hlv hnd hbk h
    obtain ⟨b0, b1, rfl⟩ := ll2 hlb
    obtain ⟨v0, v1, rfl⟩ := ll2 hlv
    obtain rfl : b0 = true := hnd 0 (by simp)
    obtain rfl : b1 = false := hbk
    replace h : RmS (fun q9 W => EnC B R (bif q9 then { g with used := g.used.set n (u + 1) } else g) (.slice (some ⟨bb, ob, none⟩) g.bks.length cb) (.slice (some ⟨PB, 0, none⟩) g.qs.length cp) y r w.heap.size (k, t, ea, eb, nm, ot) (fun k => k = R ∨ k = PB ∨ q.ve.ownBlock = some k) w W) (.int .i64 (u : Int)) true false (v0) W := h
    clear hnd
    have HST := Lib.hid h
    obtain rfl := h.v rfl; have hs : EnC B R g (.slice (some ⟨bb, ob, none⟩) g.bks.length cb) (.slice (some ⟨PB, 0, none⟩) g.qs.length cp) y r w.heap.size (k, t, ea, eb, nm, ot) (fun k => k = R ∨ k = PB ∨ q.ve.ownBlock = some k) w W := h.s; have c := hs.ra.cells.2.2.2.2 n HN8.out; rw [HU.out] at c; have lB := hs.ra.cells.2.2.2.1; have f := blk_free (o := 2 + n) hs.ra.reg; have hN0 := hs.used (k := n) (u := u + 1) HN8.out (Or.inl rfl); rw [show ((u + 1 : Nat) : Int) = (u : Int) + 1 from by push_cast; rfl] at hN0
    intro K Q hK
    simp only [putE, updAll, Act.put, sl1, sl2, sl3, sl4] at hK ⊢
    go_wp2_with fail
    all_goals (have hN : RmS (fun q9 W => EnC B R (bif q9 then { g with used := g.used.set n (u + 1) } else g) (.slice (some ⟨bb, ob, none⟩) g.bks.length cb) (.slice (some ⟨PB, 0, none⟩) g.qs.length cp) y r w.heap.size (k, t, ea, eb, nm, ot) (fun k => k = R ∨ k = PB ∨ q.ve.ownBlock = some k) w W) (.int .i64 (u : Int)) true true ((.int .i64 (u : Int))) (W.setCell ⟨R, 2 + n, none⟩ (.int .i64 ((u : Int) + 1))) := ⟨hN0, fun _ => rfl, (fun e => by cases e)⟩)
    all_goals (first | exact hK _ hN | exact hN)
   all_goals
    intro bsE vsE W hlb hlv hnd h
    obtain ⟨b0, b1, rfl⟩ := ll2 hlb
    obtain ⟨v0, v1, rfl⟩ := ll2 hlv
    replace h : RmS (fun q9 W => EnC B R (bif q9 then { g with used := g.used.set n (u + 1) } else g) (.slice (some ⟨bb, ob, none⟩) g.bks.length cb) (.slice (some ⟨PB, 0, none⟩) g.qs.length cp) y r w.heap.size (k, t, ea, eb, nm, ot) (fun k => k = R ∨ k = PB ∨ q.ve.ownBlock = some k) w W) (.int .i64 (u : Int)) b0 b1 (v0) W := h
    clear hnd
    have HST := Lib.hid h
    skip
    intro K Q hK
    simp only [putE, updAll, Act.put, sl1, sl2, sl3, sl4] at hK ⊢
    go_wp2_with (fail)
    all_goals (first | exact hK _ h | exact h)
  case done =>
   intro vsE W hlv h
   obtain ⟨v0, v1, rfl⟩ := ll2 hlv
   replace h : RmS (fun q9 W => EnC B R (bif q9 then { g with used := g.used.set n (u + 1) } else g) (.slice (some ⟨bb, ob, none⟩) g.bks.length cb) (.slice (some ⟨PB, 0, none⟩) g.qs.length cp) y r w.heap.size (k, t, ea, eb, nm, ot) (fun k => k = R ∨ k = PB ∨ q.ve.ownBlock = some k) w W) (.int .i64 (u : Int)) true true (v0) W := h
   have HST := Lib.hid h
   have HE2 : Hid (EnC B R { g with used := g.used.set n (u + 1) } (.slice (some ⟨bb, ob, none⟩) g.bks.length cb) (.slice (some ⟨PB, 0, none⟩) g.qs.length cp) y r w.heap.size (k, t, ea, eb, nm, ot) (fun k => k = R ∨ k = PB ∨ q.ve.ownBlock = some k) w W) := h.s
   clear h HST HE1
   simp only [putE, updAll, Act.put, sl1, sl2, sl3, sl4]
   have HBB : Hid (B ≤ W.drew.heap.size) := HE2.out.ra.base (W := W)
   go_upto_region 3 with fail
   refine region_all 11 11 60 [(4, 43), (5, 44), (6, 45), (7, 46), (10, 64)] [(none, []), (none, []), (none, []), (none, []), (some 0, []), (some 1, []), (some 2, [1]), (some 3, [0, 2]), (none, []), (none, []), (some 4, [3])] [(39, (.pointer (some ⟨PB, i * 20, none⟩))), (40, (.pointer (some ⟨PB, i * 20, none⟩))), (41, (.pointer (some ⟨PB, i * 20, none⟩))), (42, (.pointer (some ⟨PB, i * 20 + 19, none⟩))), (47, (.pointer (some ⟨PB, i * 20, none⟩))), (48, (.pointer (some ⟨PB, i * 20 + 19, none⟩)))] (fun bsE vsE W => ApS (fun W => EnC B R { g with used := g.used.set n (u + 1) } (.slice (some ⟨bb, ob, none⟩) g.bks.length cb) (.slice (some ⟨PB, 0, none⟩) g.qs.length cp) y r w.heap.size (k, t, ea, eb, nm, ot) (fun k => k = R ∨ k = PB ∨ q.ve.ownBlock = some k) w W) (fun W => ∃ v', EnC B R { g with used := g.used.set n (u + 1), qs := g.qs.set i { q with es := q.es ++ [y], ve := v' } } (.slice (some ⟨bb, ob, none⟩) g.bks.length cb) (.slice (some ⟨PB, 0, none⟩) g.qs.length cp) y r w.heap.size (k, t, ea, eb, nm, ot) (fun k => k = R ∨ k = PB ∨ q.ve.ownBlock = some k) w W ∧ (v'.ownBlock = q.ve.ownBlock ∨ ∃ k9, w.heap.size ≤ k9 ∧ v'.ownBlock = some k9)) B r y q.ve q.es.length (flatY q.es) (bsE.getD 0 false) (bsE.getD 1 false) (bsE.getD 2 false) (bsE.getD 3 false) (bsE.getD 4 false) ((vsE.getD 0 undef)) ((vsE.getD 1 undef)) ((vsE.getD 2 undef)) ((vsE.getD 3 undef)) W) (by kernel_rfl) (by kernel_rfl) rfl rfl (by kernel_rfl) (by rfl) ?h0 ?each ?done
   case h0 =>
    intro vsE hlv
    obtain ⟨v0, v1, v2, v3, v4, rfl⟩ := ll5 hlv
    exact ⟨fun _ => HE2.out.step (Below.refl _ _).drew, (fun e => by cases e), (fun e => by cases e), (fun e => by cases e), (fun e => by cases e), (fun _ => rfl), (fun _ => rfl), (fun _ => rfl), (fun e => by cases e), (fun _ => rfl), (fun _ => (HE2.out.step (Below.refl _ _).drew).yb), HBB.out⟩
   case each =>
    simp only [AllE]
    refine ⟨⟨39, (.pointer (some ⟨PB, i * 20, none⟩)), rfl, by kernel_rfl, ?_⟩, ⟨40, (.pointer (some ⟨PB, i * 20, none⟩)), rfl, by kernel_rfl, ?_⟩, ⟨41, (.pointer (some ⟨PB, i * 20, none⟩)), rfl, by kernel_rfl, ?_⟩, ⟨42, (.pointer (some ⟨PB, i * 20 + 19, none⟩)), rfl, by kernel_rfl, ?_⟩, Or.inl ⟨43, rfl, ?q2_4⟩, Or.inl ⟨44, rfl, ?q2_5⟩, Or.inl ⟨45, rfl, ?q2_6⟩, Or.inl ⟨46, rfl, ?q2_7⟩, ⟨47, (.pointer (some ⟨PB, i * 20, none⟩)), rfl, by kernel_rfl, ?_⟩, ⟨48, (.pointer (some ⟨PB, i * 20 + 19, none⟩)), rfl, by kernel_rfl, ?_⟩, Or.inr ⟨rfl, ?q2_10⟩, trivial⟩
    case q2_4 =>
     intro bsE vsE W hlb hlv hnd hbk h
     obtain ⟨b0, b1, b2, b3, b4, rfl⟩ := ll5 hlb
     obtain ⟨v0, v1, v2, v3, v4, rfl⟩ := ll5 hlv
     obtain rfl : b0 = false := hbk
     replace h : ApS (fun W => EnC B R { g with used := g.used.set n (u + 1) } (.slice (some ⟨bb, ob, none⟩) g.bks.length cb) (.slice (some ⟨PB, 0, none⟩) g.qs.length cp) y r w.heap.size (k, t, ea, eb, nm, ot) (fun k => k = R ∨ k = PB ∨ q.ve.ownBlock = some k) w W) (fun W => ∃ v', EnC B R { g with used := g.used.set n (u + 1), qs := g.qs.set i { q with es := q.es ++ [y], ve := v' } } (.slice (some ⟨bb, ob, none⟩) g.bks.length cb) (.slice (some ⟨PB, 0, none⟩) g.qs.length cp) y r w.heap.size (k, t, ea, eb, nm, ot) (fun k => k = R ∨ k = PB ∨ q.ve.ownBlock = some k) w W ∧ (v'.ownBlock = q.ve.ownBlock ∨ ∃ k9, w.heap.size ≤ k9 ∧ v'.ownBlock = some k9)) B r y q.ve q.es.length (flatY q.es) false b1 b2 b3 b4 (v0) (v1) (v2) (v3) W := h
     clear hnd
     have HST := Lib.hid h
     obtain rfl := h.n0 rfl; obtain rfl := h.n2 rfl; have hs : EnC B R { g with used := g.used.set n (u + 1) } (.slice (some ⟨bb, ob, none⟩) g.bks.length cb) (.slice (some ⟨PB, 0, none⟩) g.qs.length cp) y r w.heap.size (k, t, ea, eb, nm, ot) (fun k => k = R ∨ k = PB ∨ q.ve.ownBlock = some k) w W := h.a rfl; have hlf := hs.ra.life rfl HQ.out; have c := hlf.2.2; have lB := hlf.1.lt; clear hlf hs
     intro K Q hK
     simp only [putE, updAll, Act.put, sl1, sl2, sl3, sl4] at hK ⊢
     go_wp2_with fail
     all_goals (have hm := h.mk0)
     all_goals (first | exact hK _ _ hm | exact hm)
    case q2_5 =>
     intro bsE vsE W hlb hlv hnd hbk h
     obtain ⟨b0, b1, b2, b3, b4, rfl⟩ := ll5 hlb
     obtain ⟨v0, v1, v2, v3, v4, rfl⟩ := ll5 hlv
     obtain rfl : b1 = false := hbk
     replace h : ApS (fun W => EnC B R { g with used := g.used.set n (u + 1) } (.slice (some ⟨bb, ob, none⟩) g.bks.length cb) (.slice (some ⟨PB, 0, none⟩) g.qs.length cp) y r w.heap.size (k, t, ea, eb, nm, ot) (fun k => k = R ∨ k = PB ∨ q.ve.ownBlock = some k) w W) (fun W => ∃ v', EnC B R { g with used := g.used.set n (u + 1), qs := g.qs.set i { q with es := q.es ++ [y], ve := v' } } (.slice (some ⟨bb, ob, none⟩) g.bks.length cb) (.slice (some ⟨PB, 0, none⟩) g.qs.length cp) y r w.heap.size (k, t, ea, eb, nm, ot) (fun k => k = R ∨ k = PB ∨ q.ve.ownBlock = some k) w W ∧ (v'.ownBlock = q.ve.ownBlock ∨ ∃ k9, w.heap.size ≤ k9 ∧ v'.ownBlock = some k9)) B r y q.ve q.es.length (flatY q.es) b0 false b2 b3 b4 (v0) (v1) (v2) (v3) W := h
     clear hnd
     have HST := Lib.hid h
     obtain rfl := h.nY rfl; obtain rfl := h.n1 rfl; obtain rfl := h.n2 rfl
     intro K Q hK
     simp only [putE, updAll, Act.put, sl1, sl2, sl3, sl4] at hK ⊢
     refine wp_load_mid 31 (.tmp 8) rfl r 0 rfl (entC y) _ (fun j v hv => blk_cell (h.yb rfl) (by rw [Nat.zero_add]; simpa using hv)) Tryz.underlying31 rfl (by rw [ent_size, entC_len]) ?_
     exact hK _ _ h.mkY
    case q2_6 =>
     intro bsE vsE W hlb hlv hnd hbk h
     obtain ⟨b0, b1, b2, b3, b4, rfl⟩ := ll5 hlb
     obtain ⟨v0, v1, v2, v3, v4, rfl⟩ := ll5 hlv
     obtain rfl : b1 = true := hnd 1 (by simp)
     obtain rfl : b2 = false := hbk
     replace h : ApS (fun W => EnC B R { g with used := g.used.set n (u + 1) } (.slice (some ⟨bb, ob, none⟩) g.bks.length cb) (.slice (some ⟨PB, 0, none⟩) g.qs.length cp) y r w.heap.size (k, t, ea, eb, nm, ot) (fun k => k = R ∨ k = PB ∨ q.ve.ownBlock = some k) w W) (fun W => ∃ v', EnC B R { g with used := g.used.set n (u + 1), qs := g.qs.set i { q with es := q.es ++ [y], ve := v' } } (.slice (some ⟨bb, ob, none⟩) g.bks.length cb) (.slice (some ⟨PB, 0, none⟩) g.qs.length cp) y r w.heap.size (k, t, ea, eb, nm, ot) (fun k => k = R ∨ k = PB ∨ q.ve.ownBlock = some k) w W ∧ (v'.ownBlock = q.ve.ownBlock ∨ ∃ k9, w.heap.size ≤ k9 ∧ v'.ownBlock = some k9)) B r y q.ve q.es.length (flatY q.es) b0 true false b3 b4 (v0) (v1) (v2) (v3) W := h
     clear hnd
     have HST := Lib.hid h
     obtain rfl := h.ry rfl; obtain rfl := h.n1 rfl; obtain rfl := h.n2 rfl; have hm := h.mk1 (fun W w2 hW hb => hW.step hb)
     intro K Q hK
     simp only [putE, updAll, Act.put, sl1, sl2, sl3, sl4] at hK ⊢
     clear HST h
     revert hm
     obtain ⟨⟨yk, yt, ya, yb, yn, yo⟩, yy, yp, yh, yg⟩ := y
     unfold entX entC
     intro hm
     go_wp2_with fail
     all_goals (first | exact hK _ _ hm | exact hm)
    case q2_7 =>
     intro bsE vsE W hlb hlv hnd hbk h
     obtain ⟨b0, b1, b2, b3, b4, rfl⟩ := ll5 hlb
     obtain ⟨v0, v1, v2, v3, v4, rfl⟩ := ll5 hlv
     obtain rfl : b0 = true := hnd 0 (by simp)
     obtain rfl : b2 = true := hnd 2 (by simp)
     obtain rfl : b3 = false := hbk
     replace h : ApS (fun W => EnC B R { g with used := g.used.set n (u + 1) } (.slice (some ⟨bb, ob, none⟩) g.bks.length cb) (.slice (some ⟨PB, 0, none⟩) g.qs.length cp) y r w.heap.size (k, t, ea, eb, nm, ot) (fun k => k = R ∨ k = PB ∨ q.ve.ownBlock = some k) w W) (fun W => ∃ v', EnC B R { g with used := g.used.set n (u + 1), qs := g.qs.set i { q with es := q.es ++ [y], ve := v' } } (.slice (some ⟨bb, ob, none⟩) g.bks.length cb) (.slice (some ⟨PB, 0, none⟩) g.qs.length cp) y r w.heap.size (k, t, ea, eb, nm, ot) (fun k => k = R ∨ k = PB ∨ q.ve.ownBlock = some k) w W ∧ (v'.ownBlock = q.ve.ownBlock ∨ ∃ k9, w.heap.size ≤ k9 ∧ v'.ownBlock = some k9)) B r y q.ve q.es.length (flatY q.es) true b1 true false b4 (v0) (v1) (v2) (v3) W := h
     clear hnd
     have HST := Lib.hid h
     obtain rfl := h.n2 rfl
     intro K Q hK
     simp only [putE, updAll, Act.put, sl1, sl2, sl3, sl4] at hK ⊢
     exact h.app (fun W hW => hW.ra.es q HQM.out) HES.out (.tmp 43) (.tmp 45) rfl rfl rfl hK
    case q2_10 =>
     intro bsE vsE W hlb hlv hnd hbk h
     obtain ⟨b0, b1, b2, b3, b4, rfl⟩ := ll5 hlb
     obtain ⟨v0, v1, v2, v3, v4, rfl⟩ := ll5 hlv
     obtain rfl : b3 = true := hnd 3 (by simp)
     obtain rfl : b4 = false := hbk
     replace h : ApS (fun W => EnC B R { g with used := g.used.set n (u + 1) } (.slice (some ⟨bb, ob, none⟩) g.bks.length cb) (.slice (some ⟨PB, 0, none⟩) g.qs.length cp) y r w.heap.size (k, t, ea, eb, nm, ot) (fun k => k = R ∨ k = PB ∨ q.ve.ownBlock = some k) w W) (fun W => ∃ v', EnC B R { g with used := g.used.set n (u + 1), qs := g.qs.set i { q with es := q.es ++ [y], ve := v' } } (.slice (some ⟨bb, ob, none⟩) g.bks.length cb) (.slice (some ⟨PB, 0, none⟩) g.qs.length cp) y r w.heap.size (k, t, ea, eb, nm, ot) (fun k => k = R ∨ k = PB ∨ q.ve.ownBlock = some k) w W ∧ (v'.ownBlock = q.ve.ownBlock ∨ ∃ k9, w.heap.size ≤ k9 ∧ v'.ownBlock = some k9)) B r y q.ve q.es.length (flatY q.es) b0 b1 b2 true false (v0) (v1) (v2) (v3) W := h
     clear hnd
     have HST := Lib.hid h
     obtain ⟨Wb, p1, p2, p3, p4⟩ := h.m rfl rfl; obtain ⟨a9, c9, e9, -⟩ := Rw.Own.get (r := ⟨31, 10, _, q.es.length + 1, _⟩) p4; dsimp only at e9; subst e9; obtain ⟨PB2, cp2, cur, ea, -, hPB, hcl⟩ := p1.ra.packs (by rintro e; have h9 := HQ.out; rw [show g.qs = [] from e] at h9; cases h9); cases ea; have hPB5 := blk_kept hPB p2 (p1.ra.es q HQM.out) (by decide); have c := blk_cell hPB5 (hcl i q HQ.out 19 _ rfl); have f := blk_free (o := i * 20 + 19) hPB5; have lB := blk_lt hPB5; have hN0 : ApS (fun W => EnC B R { g with used := g.used.set n (u + 1) } (.slice (some ⟨bb, ob, none⟩) g.bks.length cb) (.slice (some ⟨PB, 0, none⟩) g.qs.length cp) y r w.heap.size (k, t, ea, eb, nm, ot) (fun k => k = R ∨ k = PB ∨ q.ve.ownBlock = some k) w W) (fun W => ∃ v', EnC B R { g with used := g.used.set n (u + 1), qs := g.qs.set i { q with es := q.es ++ [y], ve := v' } } (.slice (some ⟨bb, ob, none⟩) g.bks.length cb) (.slice (some ⟨PB, 0, none⟩) g.qs.length cp) y r w.heap.size (k, t, ea, eb, nm, ot) (fun k => k = R ∨ k = PB ∨ q.ve.ownBlock = some k) w W ∧ (v'.ownBlock = q.ve.ownBlock ∨ ∃ k9, w.heap.size ≤ k9 ∧ v'.ownBlock = some k9)) B r y q.ve q.es.length (flatY q.es) b0 b1 b2 true true (v0) (v1) (v2) ((.slice a9 (q.es.length + 1) c9)) (W.setCell ⟨PB, i * 20 + 19, none⟩ (.slice a9 (q.es.length + 1) c9)) := ⟨(fun e => by cases e), (fun _ e => by cases e), (fun _ => ⟨_, p1.ents rfl HQ.out p2 p4 p3 HRN.out (Or.inr (Or.inl rfl)) (fun k hk _ => Or.inr (Or.inr hk)), p3.imp id (fun e9 => ⟨_, p1.kp.size, e9⟩)⟩), h.r0, (fun _ e => by cases e), h.n0, h.n1, (fun e => by cases e), h.ry, h.nY, (fun e => by cases e), by simpa using h.hb⟩; clear hPB hcl hPB5 p1 p2 p3 p4
     intro K Q hK
     simp only [putE, updAll, Act.put, sl1, sl2, sl3, sl4] at hK ⊢
     go_wp2_with fail
     all_goals (first | exact hK _ hN0 | exact hN0)
    all_goals
     intro bsE vsE W hlb hlv hnd h
     obtain ⟨b0, b1, b2, b3, b4, rfl⟩ := ll5 hlb
     obtain ⟨v0, v1, v2, v3, v4, rfl⟩ := ll5 hlv
     replace h : ApS (fun W => EnC B R { g with used := g.used.set n (u + 1) } (.slice (some ⟨bb, ob, none⟩) g.bks.length cb) (.slice (some ⟨PB, 0, none⟩) g.qs.length cp) y r w.heap.size (k, t, ea, eb, nm, ot) (fun k => k = R ∨ k = PB ∨ q.ve.ownBlock = some k) w W) (fun W => ∃ v', EnC B R { g with used := g.used.set n (u + 1), qs := g.qs.set i { q with es := q.es ++ [y], ve := v' } } (.slice (some ⟨bb, ob, none⟩) g.bks.length cb) (.slice (some ⟨PB, 0, none⟩) g.qs.length cp) y r w.heap.size (k, t, ea, eb, nm, ot) (fun k => k = R ∨ k = PB ∨ q.ve.ownBlock = some k) w W ∧ (v'.ownBlock = q.ve.ownBlock ∨ ∃ k9, w.heap.size ≤ k9 ∧ v'.ownBlock = some k9)) B r y q.ve q.es.length (flatY q.es) b0 b1 b2 b3 b4 (v0) (v1) (v2) (v3) W := h
     clear hnd
     have HST := Lib.hid h
     skip
     intro K Q hK
     simp only [putE, updAll, Act.put, sl1, sl2, sl3, sl4] at hK ⊢
     go_wp2_with (fail)
     all_goals (first | exact hK _ h | exact h)
   case done =>
    intro vsE W hlv h
    obtain ⟨v0, v1, v2, v3, v4, rfl⟩ := ll5 hlv
    replace h : ApS (fun W => EnC B R { g with used := g.used.set n (u + 1) } (.slice (some ⟨bb, ob, none⟩) g.bks.length cb) (.slice (some ⟨PB, 0, none⟩) g.qs.length cp) y r w.heap.size (k, t, ea, eb, nm, ot) (fun k => k = R ∨ k = PB ∨ q.ve.ownBlock = some k) w W) (fun W => ∃ v', EnC B R { g with used := g.used.set n (u + 1), qs := g.qs.set i { q with es := q.es ++ [y], ve := v' } } (.slice (some ⟨bb, ob, none⟩) g.bks.length cb) (.slice (some ⟨PB, 0, none⟩) g.qs.length cp) y r w.heap.size (k, t, ea, eb, nm, ot) (fun k => k = R ∨ k = PB ∨ q.ve.ownBlock = some k) w W ∧ (v'.ownBlock = q.ve.ownBlock ∨ ∃ k9, w.heap.size ≤ k9 ∧ v'.ownBlock = some k9)) B r y q.ve q.es.length (flatY q.es) true true true true true (v0) (v1) (v2) (v3) W := h
    have HST := Lib.hid h
    have HE3 : Hid (∃ v', EnC B R { g with used := g.used.set n (u + 1), qs := g.qs.set i { q with es := q.es ++ [y], ve := v' } } (.slice (some ⟨bb, ob, none⟩) g.bks.length cb) (.slice (some ⟨PB, 0, none⟩) g.qs.length cp) y r w.heap.size (k, t, ea, eb, nm, ot) (fun k => k = R ∨ k = PB ∨ q.ve.ownBlock = some k) w W ∧ (v'.ownBlock = q.ve.ownBlock ∨ ∃ k9, w.heap.size ≤ k9 ∧ v'.ownBlock = some k9)) := h.z rfl
    clear h HST HE2
    simp only [putE, updAll, Act.put, sl1, sl2, sl3, sl4]
    obtain ⟨v', E3, HV3⟩ := HE3.out
    have HVF := Lib.hid HV3
    clear HV3
    have hi4 := (List.getElem?_eq_some_iff.1 HQ.out).1
    have HH4 : Hid ((g.qs.set i { q with es := q.es ++ [y], ve := v' })[i]? = some { q with es := q.es ++ [y], ve := v' }) := Lib.hid (List.getElem?_set_self hi4)
    have hv4 : (Value.slice (some ⟨PB, 0, none⟩) g.qs.length cp) = .slice (some ⟨PB, 0, none⟩) (g.qs.set i { q with es := q.es ++ [y], ve := v' }).length cp := by rw [List.length_set]
    have c8 : W.cell? ⟨r, 8, none⟩ = some (.int .u64 (y.2.2.2.1 : Int)) := blk_cell E3.yb rfl
    have f8 : W.frozen? ⟨PB, i * 20 + 18, none⟩ = false := (E3.ra.life hv4 HH4.out).1.free 18
    have c18 : W.cell? ⟨PB, i * 20 + 18, none⟩ = some (.int .u64 (q.hd : Int)) := (E3.ra.life hv4 HH4.out).2.1
    have E4 : Hid (EnC B R { g with used := g.used.set n (u + 1), qs := g.qs.set i { q with es := q.es ++ [y], ve := v', hd := y.2.2.2.1 } } (.slice (some ⟨bb, ob, none⟩) g.bks.length cb) (.slice (some ⟨PB, 0, none⟩) g.qs.length cp) y r w.heap.size (k, t, ea, eb, nm, ot) (fun k => k = R ∨ k = PB ∨ q.ve.ownBlock = some k) w (W.setCell ⟨PB, i * 20 + 18, none⟩ (.int .u64 (y.2.2.2.1 : Int)))) := by
     have h9 : EnC B R { g with used := g.used.set n (u + 1), qs := (g.qs.set i { q with es := q.es ++ [y], ve := v' }).set i { q with es := q.es ++ [y], ve := v', hd := y.2.2.2.1 } } (.slice (some ⟨bb, ob, none⟩) g.bks.length cb) (.slice (some ⟨PB, 0, none⟩) g.qs.length cp) y r w.heap.size (k, t, ea, eb, nm, ot) (fun k => k = R ∨ k = PB ∨ q.ve.ownBlock = some k) w (W.setCell ⟨PB, i * 20 + 18, none⟩ (.int .u64 (y.2.2.2.1 : Int))) := EnC.hd E3 hv4 HH4.out (Or.inr (Or.inl rfl)) y.2.2.2.1
     rw [List.set_set] at h9
     exact h9
    have HH5 : Hid ((g.qs.set i { q with es := q.es ++ [y], ve := v', hd := y.2.2.2.1 })[i]? = some { q with es := q.es ++ [y], ve := v', hd := y.2.2.2.1 }) := Lib.hid (List.getElem?_set_self hi4)
    have hv5 : (Value.slice (some ⟨PB, 0, none⟩) g.qs.length cp) = .slice (some ⟨PB, 0, none⟩) (g.qs.set i { q with es := q.es ++ [y], ve := v', hd := y.2.2.2.1 }).length cp := by rw [List.length_set]
    have HV5 := Lib.hid hv5
    clear HE3 E3 hv4 HH4 hv5 hi4
    go_upto_region 5 with fail
    refine region_all 5 5 60 [(4, 59)] [(none, []), (none, []), (none, []), (none, []), (some 0, [])] [(55, (.pointer (some ⟨PB, i * 20, none⟩))), (56, (.pointer (some ⟨PB, i * 20, none⟩))), (57, (.pointer (some ⟨PB, i * 20, none⟩))), (58, (.agg #[.int .i64 k, .int .i64 t, .int .i64 ea, .int .i64 eb, .string nm, .string ot]))] (fun bsE vsE W => OneS (fun W => W.heap[w.heap.size]? = some (.cells (evtC (k, t, ea, eb, nm, ot)).toArray 29 (0, 0))) (fun W => EnC B R { g with used := g.used.set n (u + 1), qs := g.qs.set i { q with es := q.es ++ [y], ve := v', hd := y.2.2.2.1 } } (.slice (some ⟨bb, ob, none⟩) g.bks.length cb) (.slice (some ⟨PB, 0, none⟩) g.qs.length cp) y r w.heap.size (k, t, ea, eb, nm, ot) (fun k => k = R ∨ k = PB ∨ q.ve.ownBlock = some k) w W) (fun W => ∃ vm' vo', EnC B R { g with used := g.used.set n (u + 1), qs := g.qs.set i { q with es := q.es ++ [y], ve := v', hd := y.2.2.2.1, life := q.life.add q.nm (k, t, ea, eb, nm, ot), vm := vm', vo := vo' } } (.slice (some ⟨bb, ob, none⟩) g.bks.length cb) (.slice (some ⟨PB, 0, none⟩) g.qs.length cp) y r w.heap.size (k, t, ea, eb, nm, ot) (fun k => k = R ∨ k = PB ∨ q.ve.ownBlock = some k) w W ∧ X vm' vo') (bsE.getD 0 false) W) (by kernel_rfl) (by kernel_rfl) rfl rfl (by kernel_rfl) (by rfl) ?h0 ?each ?done
    case h0 =>
     intro vsE hlv
     obtain ⟨v0, rfl⟩ := ll1 hlv
     exact ⟨(E4.out.step (Below.refl _ _).drew).eb, (fun _ => E4.out.step (Below.refl _ _).drew), (fun e => by cases e)⟩
    case each =>
     simp only [AllE]
     refine ⟨⟨55, (.pointer (some ⟨PB, i * 20, none⟩)), rfl, by kernel_rfl, ?_⟩, ⟨56, (.pointer (some ⟨PB, i * 20, none⟩)), rfl, by kernel_rfl, ?_⟩, ⟨57, (.pointer (some ⟨PB, i * 20, none⟩)), rfl, by kernel_rfl, ?_⟩, ⟨58, (.agg #[.int .i64 k, .int .i64 t, .int .i64 ea, .int .i64 eb, .string nm, .string ot]), rfl, by kernel_rfl, ?_⟩, Or.inl ⟨59, rfl, ?q1_4⟩, trivial⟩
     case q1_4 =>
      intro bsE vsE W hlb hlv hnd hbk h
      obtain ⟨b0, rfl⟩ := ll1 hlb
      obtain ⟨v0, rfl⟩ := ll1 hlv
      obtain rfl : b0 = false := hbk
      replace h : OneS (fun W => W.heap[w.heap.size]? = some (.cells (evtC (k, t, ea, eb, nm, ot)).toArray 29 (0, 0))) (fun W => EnC B R { g with used := g.used.set n (u + 1), qs := g.qs.set i { q with es := q.es ++ [y], ve := v', hd := y.2.2.2.1 } } (.slice (some ⟨bb, ob, none⟩) g.bks.length cb) (.slice (some ⟨PB, 0, none⟩) g.qs.length cp) y r w.heap.size (k, t, ea, eb, nm, ot) (fun k => k = R ∨ k = PB ∨ q.ve.ownBlock = some k) w W) (fun W => ∃ vm' vo', EnC B R { g with used := g.used.set n (u + 1), qs := g.qs.set i { q with es := q.es ++ [y], ve := v', hd := y.2.2.2.1, life := q.life.add q.nm (k, t, ea, eb, nm, ot), vm := vm', vo := vo' } } (.slice (some ⟨bb, ob, none⟩) g.bks.length cb) (.slice (some ⟨PB, 0, none⟩) g.qs.length cp) y r w.heap.size (k, t, ea, eb, nm, ot) (fun k => k = R ∨ k = PB ∨ q.ve.ownBlock = some k) w W ∧ X vm' vo') false W := h
      clear hnd
      have HST := Lib.hid h
      have hs : EnC B R { g with used := g.used.set n (u + 1), qs := g.qs.set i { q with es := q.es ++ [y], ve := v', hd := y.2.2.2.1 } } (.slice (some ⟨bb, ob, none⟩) g.bks.length cb) (.slice (some ⟨PB, 0, none⟩) g.qs.length cp) y r w.heap.size (k, t, ea, eb, nm, ot) (fun k => k = R ∨ k = PB ∨ q.ve.ownBlock = some k) w W := h.a rfl; have hlf := hs.ra.life HV5.out HH5.out; have hms := (hs.ra.ms _ (List.mem_of_getElem? HH5.out)).2.2
      intro K Q hK
      simp only [putE, updAll, Act.put, sl1, sl2, sl3, sl4] at hK ⊢
      go_wp2_with (go_at_call 46; refine (CA.out _ hs.kp.size hlf.1 hms).mono ?_; rintro en w9 ⟨rfl, vm', vo', hl9, ho9, hx9⟩)
      all_goals (have h9 : EnC B R { g with used := g.used.set n (u + 1), qs := (g.qs.set i { q with es := q.es ++ [y], ve := v', hd := y.2.2.2.1 }).set i { q with es := q.es ++ [y], ve := v', hd := y.2.2.2.1, life := q.life.add q.nm (k, t, ea, eb, nm, ot), vm := vm', vo := vo' } } (.slice (some ⟨bb, ob, none⟩) g.bks.length cb) (.slice (some ⟨PB, 0, none⟩) g.qs.length cp) y r w.heap.size (k, t, ea, eb, nm, ot) (fun k => k = R ∨ k = PB ∨ q.ve.ownBlock = some k) w w9 := EnC.life hs HV5.out HH5.out (Or.inr (Or.inl rfl)) hl9 ho9 (Nat.succ_ne_zero _))
      all_goals (rw [List.set_set] at h9)
      all_goals (have hm : OneS (fun W => W.heap[w.heap.size]? = some (.cells (evtC (k, t, ea, eb, nm, ot)).toArray 29 (0, 0))) (fun W => EnC B R { g with used := g.used.set n (u + 1), qs := g.qs.set i { q with es := q.es ++ [y], ve := v', hd := y.2.2.2.1 } } (.slice (some ⟨bb, ob, none⟩) g.bks.length cb) (.slice (some ⟨PB, 0, none⟩) g.qs.length cp) y r w.heap.size (k, t, ea, eb, nm, ot) (fun k => k = R ∨ k = PB ∨ q.ve.ownBlock = some k) w W) (fun W => ∃ vm' vo', EnC B R { g with used := g.used.set n (u + 1), qs := g.qs.set i { q with es := q.es ++ [y], ve := v', hd := y.2.2.2.1, life := q.life.add q.nm (k, t, ea, eb, nm, ot), vm := vm', vo := vo' } } (.slice (some ⟨bb, ob, none⟩) g.bks.length cb) (.slice (some ⟨PB, 0, none⟩) g.qs.length cp) y r w.heap.size (k, t, ea, eb, nm, ot) (fun k => k = R ∨ k = PB ∨ q.ve.ownBlock = some k) w W ∧ X vm' vo') true w9 := ⟨h9.eb, (fun e => by cases e), fun _ => ⟨vm', vo', h9, hx9⟩⟩)
      all_goals (first | exact hK _ _ hm | exact hm)
     all_goals
      intro bsE vsE W hlb hlv hnd h
      obtain ⟨b0, rfl⟩ := ll1 hlb
      obtain ⟨v0, rfl⟩ := ll1 hlv
      replace h : OneS (fun W => W.heap[w.heap.size]? = some (.cells (evtC (k, t, ea, eb, nm, ot)).toArray 29 (0, 0))) (fun W => EnC B R { g with used := g.used.set n (u + 1), qs := g.qs.set i { q with es := q.es ++ [y], ve := v', hd := y.2.2.2.1 } } (.slice (some ⟨bb, ob, none⟩) g.bks.length cb) (.slice (some ⟨PB, 0, none⟩) g.qs.length cp) y r w.heap.size (k, t, ea, eb, nm, ot) (fun k => k = R ∨ k = PB ∨ q.ve.ownBlock = some k) w W) (fun W => ∃ vm' vo', EnC B R { g with used := g.used.set n (u + 1), qs := g.qs.set i { q with es := q.es ++ [y], ve := v', hd := y.2.2.2.1, life := q.life.add q.nm (k, t, ea, eb, nm, ot), vm := vm', vo := vo' } } (.slice (some ⟨bb, ob, none⟩) g.bks.length cb) (.slice (some ⟨PB, 0, none⟩) g.qs.length cp) y r w.heap.size (k, t, ea, eb, nm, ot) (fun k => k = R ∨ k = PB ∨ q.ve.ownBlock = some k) w W ∧ X vm' vo') b0 W := h
      clear hnd
      have HST := Lib.hid h
      have HXW : W.heap[w.heap.size]? = some (.cells (evtC (k, t, ea, eb, nm, ot)).toArray 29 (0, 0)) := h.p; have x0 := blk_cell (o := 0) HXW rfl; have x1 := blk_cell (o := 1) HXW rfl; have x2 := blk_cell (o := 2) HXW rfl; have x3 := blk_cell (o := 3) HXW rfl; have x4 := blk_cell (o := 4) HXW rfl; have x5 := blk_cell (o := 5) HXW rfl; have xl := blk_lt HXW; clear HXW
      intro K Q hK
      simp only [putE, updAll, Act.put, sl1, sl2, sl3, sl4] at hK ⊢
      go_wp2_with (fail)
      all_goals (first | exact hK _ h | exact h)
    case done =>
     intro vsE W hlv h
     obtain ⟨v0, rfl⟩ := ll1 hlv
     replace h : OneS (fun W => W.heap[w.heap.size]? = some (.cells (evtC (k, t, ea, eb, nm, ot)).toArray 29 (0, 0))) (fun W => EnC B R { g with used := g.used.set n (u + 1), qs := g.qs.set i { q with es := q.es ++ [y], ve := v', hd := y.2.2.2.1 } } (.slice (some ⟨bb, ob, none⟩) g.bks.length cb) (.slice (some ⟨PB, 0, none⟩) g.qs.length cp) y r w.heap.size (k, t, ea, eb, nm, ot) (fun k => k = R ∨ k = PB ∨ q.ve.ownBlock = some k) w W) (fun W => ∃ vm' vo', EnC B R { g with used := g.used.set n (u + 1), qs := g.qs.set i { q with es := q.es ++ [y], ve := v', hd := y.2.2.2.1, life := q.life.add q.nm (k, t, ea, eb, nm, ot), vm := vm', vo := vo' } } (.slice (some ⟨bb, ob, none⟩) g.bks.length cb) (.slice (some ⟨PB, 0, none⟩) g.qs.length cp) y r w.heap.size (k, t, ea, eb, nm, ot) (fun k => k = R ∨ k = PB ∨ q.ve.ownBlock = some k) w W ∧ X vm' vo') true W := h
     have HST := Lib.hid h
     obtain ⟨vm', vo', E5, HX5⟩ := h.z rfl
     simp only [putE, updAll, Act.put, sl1, sl2, sl3, sl4]
     go_wp2_with fail
     exact bodyPost_end (results_none rfl _ _ _) rfl ⟨rfl, vm', vo', v', E5.ra, E5.kp, HVF.out, HX5⟩
end Go.Proofs.YtmpilgkfbibhlaaGreatDoor
namespace Go.Proofs.YtmpilgkfbibhlaaGreatDoor
theorem itoa_cases (n : Int) : (∃ u : Nat, n = u ∧ Lib.itoa n = Lib.decDigits u) ∨ (∃ u : Nat, 1 ≤ u ∧ n = -(u : Int) ∧ Lib.itoa n = 45 :: Lib.decDigits u) := by
 rcases Int.lt_or_le n 0 with h | h
 ·obtain ⟨u, hu⟩ := Int.eq_ofNat_of_zero_le (show 0 ≤ -n by omega)
  have e : n = -(u : Int) := by omega
  exact .inr ⟨u, by omega, e, by rw [e]; exact Lib.itoa_neg u (by omega)⟩
 ·obtain ⟨u, hu⟩ := Int.eq_ofNat_of_zero_le h
  exact .inl ⟨u, hu, by rw [hu]; exact Lib.itoa_nonneg u⟩
theorem dec_head {u : Nat} {c : UInt8} {r : List UInt8} (h : Lib.decDigits u = c :: r) : 48 ≤ c.toNat ∧ c.toNat ≤ 57 := dec_plain u c (by rw [h]; exact List.mem_cons_self ..)
/-! strconv.ParseInt at a decimal number. -/
theorem pM_dec {M u : Nat} (hM : M ≤ 18446744073709551615) (hu : u ≤ M) (r : List UInt8) : Lib.parseUintM M 0 (Lib.decDigits u ++ r) = Lib.parseUintM M u r := by
 induction u using Nat.strongRecOn generalizing r with
 | ind u ih =>
  have h48 : ∀ d, d < 10 → (UInt8.ofNat (48 + d)).toNat = 48 + d := fun d hd => dig_nat hd
  by_cases h : u < 10
  ·rw [Lib.decDigits_one h, List.singleton_append, Lib.parseUintM, h48 u h]
   rw [if_pos ⟨by omega, by omega⟩, if_neg (by decide), if_neg (by omega)]
   congr 1; omega
  ·rw [dec_step h, List.append_assoc, ih (u / 10) (by omega) (by omega), List.singleton_append, Lib.parseUintM, h48 (u % 10) (by omega)]
   rw [if_pos ⟨by omega, by omega⟩, if_neg (by omega), if_neg (by omega)]
   congr 1; omega
theorem pU_dec {u : Nat} (hu : u ≤ 18446744073709551615) : Lib.parseUintB 64 (Lib.decDigits u) = .ok u := by
 unfold Lib.parseUintB
 rw [if_neg (dec_ne u)]
 have := pM_dec (M := 18446744073709551615) (by decide) hu []
 rw [List.append_nil] at this
 exact this
theorem parse_itoa {n : Int} (h1 : -9223372036854775808 ≤ n) (h2 : n ≤ 9223372036854775807) : Lib.parseIntB 64 (Lib.itoa n) = .ok n := by
 rcases itoa_cases n with ⟨u, e1, e2⟩ | ⟨u, hu, e1, e2⟩
 ·rw [e2]
  cases hd : Lib.decDigits u with
  | nil => exact absurd hd (dec_ne u)
  | cons c r =>
   have hc := dec_head hd
   unfold Lib.parseIntB
   have k1 : ¬ (c.toNat = 43 ∨ c.toNat = 45) := by omega
   have k2 : ¬ c.toNat = 45 := by omega
   simp only [if_neg k1]
   rw [← hd, pU_dec (by omega)]
   simp only [k2, not_false_eq_true, true_and, false_and, if_false]
   rw [if_neg (by show ¬ 9223372036854775808 ≤ u; omega)]
   rw [e1]
 ·rw [e2]
  unfold Lib.parseIntB
  have k2 : (45 : UInt8).toNat = 45 := rfl
  simp only [k2, or_true, if_true]
  rw [pU_dec (by omega)]
  simp only [not_true_eq_false, false_and, true_and, if_true, if_false]
  rw [if_neg (by show ¬ 9223372036854775808 < u; omega)]
  rw [e1]
/-! The reference's Number. -/
/-! Spans. -/
end Go.Proofs.YtmpilgkfbibhlaaGreatDoor
namespace Go.Proofs.YtmpilgkfbibhlaaGreatDoor
open Sx Go.RowKit
theorem ba_inj {a b : ByteArray} (h : a.data.toList = b.data.toList) : a = b := by
 obtain ⟨⟨x⟩⟩ := a
 obtain ⟨⟨y⟩⟩ := b
 have h' : x = y := h
 rw [h']
end Go.Proofs.YtmpilgkfbibhlaaGreatDoor
