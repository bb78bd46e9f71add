/-
 enter of package passport: the head and the life of the pack that was entered.
-/
import Derived.Test.YtmpilgkfbibhlaaGreatDoorG22Y
import Derived.Test.YtmpilgkfbibhlaaGreatDoorG0Y
import Derived.Test.YtmpilgkfbibhlaaGreatDoorG16Y
set_option linter.unusedSimpArgs false
set_option linter.unusedVariables false
namespace Go.Proofs.YtmpilgkfbibhlaaGreatDoor
open Sx Go.RowKit Mr
section
variable {T : TypeId} {B R r E i PB cp off n m : Nat} {g : RegS} {vb vp vm' vo' : Value} {y : Ent} {e : Evt} {S : Nat → Prop} {w W w2 : World} {q : PkV} {x' : LifeS}
theorem OnlyB.wide (h : OnlyB T B off n w W) (hn : n ≤ m) : OnlyB T B off m w W := by
 obtain ⟨cs, cs', h1, h2, h3, h4⟩ := h.cells
 exact ⟨h.os, h.tape, h.output, h.size, h.lt, h.block, cs, cs', h1, h2, h3, fun j hj => h4 j (by omega)⟩
theorem EnC.hd (h : EnC B R g vb vp y r E e S w W) (hvp : vp = .slice (some ⟨PB, 0, none⟩) g.qs.length cp) (hq : g.qs[i]? = some q) (hS : S PB) (n : Nat) :
  EnC B R { g with qs := g.qs.set i { q with hd := n } } vb vp y r E e S w (W.setCell ⟨PB, i * 20 + 18, none⟩ (.int .u64 (n : Int))) := by
 obtain ⟨PB2, cp2, cur, ea, -, hPB, hcl⟩ := h.ra.packs (by rintro e; rw [e] at hq; cases hq)
 rw [hvp] at ea
 cases ea
 have ho := (OnlyB.start (off := i * 20) (n := 20) hPB).set (j := 18) (by omega) (.int .u64 (n : Int))
 obtain ⟨m1, m2, m3⟩ := h.ra.ms q (List.mem_of_getElem? hq)
 have hT : 116 ≠ 9 := by decide
 refine h.pk (q' := { q with hd := n }) hvp hq ho (fun j u hj => ?_) ⟨m1.only ho hT, m2.only ho hT, m3⟩ ⟨rfl, rfl⟩ hS
 refine blk_cell (blk_set hPB) ?_
 rw [Array.getElem?_setIfInBounds]
 have hj20 : j < 20 := (List.getElem?_eq_some_iff.1 hj).1
 by_cases hj8 : j = 18
 ·subst hj8
  have hz := (Array.getElem?_eq_some_iff.1 (hcl i q hq 18 _ rfl)).1
  rw [if_pos rfl, if_pos hz]
  exact hj
 ·rw [if_neg (by omega)]
  refine hcl i q hq j u ?_
  unfold pkC at hj ⊢
  by_cases h18 : j < 18
  ·rw [List.getElem?_append_left (by exact h18)] at hj ⊢
   exact hj
  ·obtain rfl : j = 19 := by omega
   exact hj
theorem EnC.life (h : EnC B R g vb vp y r E e S w W) (hvp : vp = .slice (some ⟨PB, 0, none⟩) g.qs.length cp) (hq : g.qs[i]? = some q) (hS : S PB) (hl : LifeAt 116 PB (i * 20) q.nm x' vm' vo' w2) (ho : OnlyB 116 PB (i * 20) 18 W w2) (hn : x'.n ≠ 0) :
  EnC B R { g with qs := g.qs.set i { q with life := x', vm := vm', vo := vo' } } vb vp y r E e S w w2 := by
 obtain ⟨PB2, cp2, cur, ea, -, hPB, hcl⟩ := h.ra.packs (by rintro e; rw [e] at hq; cases hq)
 rw [hvp] at ea
 cases ea
 obtain ⟨⟨cs2, e2, e3⟩, m1, m2⟩ := hl
 refine h.pk (q' := { q with life := x', vm := vm', vo := vo' }) hvp hq (ho.wide (by omega)) (fun j u hj => ?_) ⟨m1, m2, fun h0 => absurd h0 hn⟩ ⟨rfl, rfl⟩ hS
 refine blk_cell e2 ?_
 have hj20 : j < 20 := (List.getElem?_eq_some_iff.1 hj).1
 unfold pkC at hj
 by_cases h18 : j < 18
 ·rw [List.getElem?_append_left (by exact h18)] at hj
  exact e3 j u hj
 ·obtain ⟨cs, cs', c1, c2, c3, c4⟩ := ho.cells
  rw [hPB] at c1
  simp at c1
  obtain rfl := c1
  rw [e2] at c2
  simp at c2
  obtain rfl := c2
  rw [c4 _ (Or.inr (by omega))]
  refine hcl i q hq j u ?_
  unfold pkC
  rw [List.getElem?_append_right (by show 18 ≤ j; omega)] at hj ⊢
  exact hj
end
end Go.Proofs.YtmpilgkfbibhlaaGreatDoor
namespace Go.Proofs.YtmpilgkfbibhlaaGreatDoor
open Sx Go.RowKit Mr
structure OneS (P C0 C1 : World → Prop) (b : Bool) (W : World) : Prop where
 p : P W
 a : b = false → C0 W
 z : b = true → C1 W
def Entered (X : Value → Value → Prop) (B R : Nat) (g : RegS) (vb vp : Value) (PB i n u : Nat) (q : PkV) (y : Ent) (e : Evt) (w w' : World) : Prop :=
 ∃ vm' vo' v', RegAt B R { g with used := g.used.set n (u + 1), qs := g.qs.set i { q with es := q.es ++ [y], ve := v', hd := y.2.2.2.1, life := q.life.add q.nm e, vm := vm', vo := vo' } } vb vp w' ∧
  KeepB (fun k => k = R ∨ k = PB ∨ q.ve.ownBlock = some k) w w' ∧ (v'.ownBlock = q.ve.ownBlock ∨ ∃ k9, w.heap.size ≤ k9 ∧ v'.ownBlock = some k9) ∧ X vm' vo'
set_option maxHeartbeats 8000000 in
set_option maxRecDepth 20000 in
theorem enter_gen {X : Value → Value → Prop} {B R : Nat} {g : RegS} {vb : Value} {w : World} {PB cp i n u pd cb bb ob : Nat} {q : PkV} {bk : Bk} (h : RegAt B R g vb (.slice (some ⟨PB, 0, none⟩) g.qs.length cp) w) (hq : g.qs[i]? = some q) (hvb : vb = .slice (some ⟨bb, ob, none⟩) g.bks.length cb) (hbk : g.bks[n]? = some bk) (hu : g.used.getD n 0 = u) (hpd : bk.2[u]? = some pd)
  (e : Evt) (hok : okX e = true) (hsz : e.2.2.2.2.1.size ≤ 100 ∧ e.2.2.2.2.2.size ≤ 100) (hsec : secR g.pt g.bks = 0) (hes : q.es.length ≤ 100000) (hCA : ∀ W, w.heap.size ≤ W.heap.size → LifeAt 116 PB (i * 20) q.nm q.life q.vm q.vo W → (q.life.n = 0 → q.vm = .slice none 0 0 ∧ q.life.ms = []) → Calls Tryz.prog 46 #[.pointer (some ⟨PB, i * 20, none⟩), evX e] W fun en w' => en = .returned (.tuple #[]) ∧ ∃ vm' vo', LifeAt 116 PB (i * 20) q.nm (q.life.add q.nm e) vm' vo' w' ∧ OnlyB 116 PB (i * 20) 18 W w' ∧ X vm' vo') :
  Calls Tryz.prog 65 #[.pointer (some ⟨R, 0, none⟩), .int .i64 (n : Int), .pointer (some ⟨PB, i * 20, none⟩), evX e] w fun en w' => en = .returned (.tuple #[]) ∧ Entered X B R g vb (.slice (some ⟨PB, 0, none⟩) g.qs.length cp) PB i n u q (nextE g.pt g.bks q.hd e n u) e w w' := by
 obtain ⟨hb1, hb8, hbks⟩ := secR_ok hsec
 have hbd := hbks bk (List.mem_of_getElem? hbk)
 have hn8 : n < 8 := by have := (List.getElem?_eq_some_iff.1 hbk).1; omega
 have hn0 : (0 : Int) ≤ n := by omega
 have hn8i : (n : Int) < 8 := by omega
 have hu5 : (u : Int) ≤ 5000 := by have := (List.getElem?_eq_some_iff.1 hpd).1; have := hbd.2.1; omega
 have hu0 : (0 : Int) ≤ u := by omega
 obtain ⟨ab, cb2, evb, hBk⟩ := h.bk
 rw [hvb] at evb
 cases evb
 obtain ⟨hL, hhd, hve⟩ := h.life rfl hq
 obtain ⟨c0, c1, -, cl, cu⟩ := h.cells
 have cun := cu n hn8
 rw [hu] at cun
 subst hvb
 obtain ⟨y, hy⟩ : ∃ y, nextE g.pt g.bks q.hd e n u = y := ⟨_, rfl⟩
 have hPl := hL.lt
 have HC := Lib.hid (And.intro c0 (And.intro c1 (And.intro cun hhd)))
 have HLT := Lib.hid (And.intro cl hPl)
 have CN : Hid (∀ W, Below w.heap.size w W → Calls Tryz.prog 45 #[.pointer (some ⟨PB, i * 20 + 18, none⟩), .int .u64 (g.pt : Int), .slice (some ⟨bb, ob, none⟩) g.bks.length cb, evX e, .int .i64 (n : Int), .int .i64 (u : Int)] W fun en w' => en = .returned (entX y) ∧ Below W.heap.size W w') := fun W hW => by
  rw [← hy]
  exact Next_any g.pt cb PB (i * 20 + 18) q.hd n u pd bk e hok hsz ((KeepT.of_below hW).books hBk).at_ (cell_step hhd hW) (Nat.lt_of_lt_of_le hPl hW.size) hbk hb8.2 hpd (by omega) (by have := hb1.2; unfold P31 at this; omega) (by have := hbd.1.2; unfold P31 at this; omega) (by have := hbd.2.2 pd (List.mem_of_getElem? hpd); unfold P31 at this; omega)
 have H := Lib.hid h
 have HES := Lib.hid hes
 rw [hy]
 have CA := Lib.hid hCA
 obtain ⟨k, t, ea, eb, nm, ot⟩ := e
 replace CN : Hid (∀ W, Below w.heap.size w W → Calls Tryz.prog 45 #[.pointer (some ⟨PB, i * 20 + 18, none⟩), .int .u64 (g.pt : Int), .slice (some ⟨bb, ob, none⟩) g.bks.length cb, .agg #[.int .i64 k, .int .i64 t, .int .i64 ea, .int .i64 eb, .string nm, .string ot], .int .i64 (n : Int), .int .i64 (u : Int)] W fun en w' => en = .returned (entX y) ∧ Below W.heap.size W w') := CN
 replace CA : Hid (∀ W, w.heap.size ≤ W.heap.size → LifeAt 116 PB (i * 20) q.nm q.life q.vm q.vo W → (q.life.n = 0 → q.vm = .slice none 0 0 ∧ q.life.ms = []) → Calls Tryz.prog 46 #[.pointer (some ⟨PB, i * 20, none⟩), .agg #[.int .i64 k, .int .i64 t, .int .i64 ea, .int .i64 eb, .string nm, .string ot]] W fun en w' => en = .returned (.tuple #[]) ∧ ∃ vm' vo', LifeAt 116 PB (i * 20) q.nm (q.life.add q.nm (k, t, ea, eb, nm, ot)) vm' vo' w' ∧ OnlyB 116 PB (i * 20) 18 W w' ∧ X vm' vo') := CA
 change Calls Tryz.prog 65 #[.pointer (some ⟨R, 0, none⟩), .int .i64 (n : Int), .pointer (some ⟨PB, i * 20, none⟩), .agg #[.int .i64 k, .int .i64 t, .int .i64 ea, .int .i64 eb, .string nm, .string ot]] w _
 have HX := Lib.hid (blk_new w (.cells #[.int .i64 k, .int .i64 t, .int .i64 ea, .int .i64 eb, .string nm, .string ot] 29))
 have HB0 := Lib.hid (bAl (W := w) (o := (.cells #[.int .i64 k, .int .i64 t, .int .i64 ea, .int .i64 eb, .string nm, .string ot] 29)))
 clear h c0 c1 cun hhd hve hL cu hBk hPl cl hb1 hb8 hbks hbd hok hsz hsec hbk hpd hCA
 go_enter Tryz.func65, Tryz.ntmps65
 go_upto_region 1 with fail
 generalize w.alloc (.cells #[.int .i64 k, .int .i64 t, .int .i64 ea, .int .i64 eb, .string nm, .string ot] 29) = w0 at *
 refine region_all 22 22 60 [(20, 8), (21, 61)] [(none, []), (none, []), (none, []), (none, []), (none, []), (none, []), (none, []), (none, []), (none, []), (none, []), (none, []), (none, []), (none, []), (none, []), (none, []), (none, []), (none, []), (none, []), (none, []), (none, []), (some 0, []), (some 1, [0])] [(9, (.pointer (some ⟨PB, i * 20, none⟩))), (10, (.pointer (some ⟨PB, i * 20, none⟩))), (11, (.pointer (some ⟨PB, i * 20 + 18, none⟩))), (12, (.pointer (some ⟨R, 0, none⟩))), (13, (.pointer (some ⟨R, 0, none⟩))), (14, (.pointer (some ⟨R, 0, none⟩))), (15, (.int .u64 (g.pt : Int))), (16, (.pointer (some ⟨R, 0, none⟩))), (17, (.pointer (some ⟨R, 0, none⟩))), (18, (.pointer (some ⟨R, 1, none⟩))), (19, (.slice (some ⟨bb, ob, none⟩) g.bks.length cb)), (20, (.agg #[.int .i64 k, .int .i64 t, .int .i64 ea, .int .i64 eb, .string nm, .string ot])), (21, (.int .i64 (n : Int))), (22, (.pointer (some ⟨R, 0, none⟩))), (23, (.int .i64 (n : Int))), (24, (.pointer (some ⟨R, 0, none⟩))), (25, (.pointer (some ⟨R, 2, none⟩))), (26, (.pointer (some ⟨R, 2 + n, none⟩))), (27, (.int .i64 (u : Int))), (28, (entX y))] (fun bsE vsE W => EnS w0 y (bsE.getD 0 false) (bsE.getD 1 false) ((vsE.getD 0 undef)) W) (by kernel_rfl) (by kernel_rfl) rfl rfl (by kernel_rfl) (by rfl) ?h0 ?each ?done
 case h0 =>
  intro vsE hlv
  obtain ⟨v0, v1, rfl⟩ := ll2 hlv
  exact ⟨(Below.refl _ _).drew, (fun e => by cases e), (fun _ => rfl)⟩
 case each =>
  simp only [AllE]
  refine ⟨⟨9, (.pointer (some ⟨PB, i * 20, none⟩)), rfl, by kernel_rfl, ?_⟩, ⟨10, (.pointer (some ⟨PB, i * 20, none⟩)), rfl, by kernel_rfl, ?_⟩, ⟨11, (.pointer (some ⟨PB, i * 20 + 18, none⟩)), rfl, by kernel_rfl, ?_⟩, ⟨12, (.pointer (some ⟨R, 0, none⟩)), rfl, by kernel_rfl, ?_⟩, ⟨13, (.pointer (some ⟨R, 0, none⟩)), rfl, by kernel_rfl, ?_⟩, ⟨14, (.pointer (some ⟨R, 0, none⟩)), rfl, by kernel_rfl, ?_⟩, ⟨15, (.int .u64 (g.pt : Int)), rfl, by kernel_rfl, ?_⟩, ⟨16, (.pointer (some ⟨R, 0, none⟩)), rfl, by kernel_rfl, ?_⟩, ⟨17, (.pointer (some ⟨R, 0, none⟩)), rfl, by kernel_rfl, ?_⟩, ⟨18, (.pointer (some ⟨R, 1, none⟩)), rfl, by kernel_rfl, ?_⟩, ⟨19, (.slice (some ⟨bb, ob, none⟩) g.bks.length cb), rfl, by kernel_rfl, ?_⟩, ⟨20, (.agg #[.int .i64 k, .int .i64 t, .int .i64 ea, .int .i64 eb, .string nm, .string ot]), rfl, by kernel_rfl, ?_⟩, ⟨21, (.int .i64 (n : Int)), rfl, by kernel_rfl, ?_⟩, ⟨22, (.pointer (some ⟨R, 0, none⟩)), rfl, by kernel_rfl, ?_⟩, ⟨23, (.int .i64 (n : Int)), rfl, by kernel_rfl, ?_⟩, ⟨24, (.pointer (some ⟨R, 0, none⟩)), rfl, by kernel_rfl, ?_⟩, ⟨25, (.pointer (some ⟨R, 2, none⟩)), rfl, by kernel_rfl, ?_⟩, ⟨26, (.pointer (some ⟨R, 2 + n, none⟩)), rfl, by kernel_rfl, ?_⟩, ⟨27, (.int .i64 (u : Int)), rfl, by kernel_rfl, ?_⟩, ⟨28, (entX y), rfl, by kernel_rfl, ?q4_19⟩, Or.inl ⟨8, rfl, ?q4_20⟩, Or.inr ⟨rfl, ?q4_21⟩, trivial⟩
  case q4_19 =>
   intro bsE vsE W hlb hlv hnd h
   obtain ⟨b0, b1, rfl⟩ := ll2 hlb
   obtain ⟨v0, v1, rfl⟩ := ll2 hlv
   replace h : EnS w0 y b0 b1 (v0) W := h
   clear hnd
   have HST := Lib.hid h
   have hbw := bStep HB0.out h.bel; have c0 := cell_step HC.out.1 hbw; have c1 := cell_step HC.out.2.1 hbw; have c2 := cell_step HC.out.2.2.1 hbw; have c3 := cell_step HC.out.2.2.2 hbw; have l1 := Nat.lt_of_lt_of_le HLT.out.1 hbw.size; have l2 := Nat.lt_of_lt_of_le HLT.out.2 hbw.size; have HXW := blk_step HX.out h.bel; have x0 := blk_cell (o := 0) HXW rfl; have x1 := blk_cell (o := 1) HXW rfl; have x2 := blk_cell (o := 2) HXW rfl; have x3 := blk_cell (o := 3) HXW rfl; have x4 := blk_cell (o := 4) HXW rfl; have x5 := blk_cell (o := 5) HXW rfl; have xl := blk_lt HXW; clear HXW hbw
   intro K Q hK
   simp only [putE, updAll, Act.put, sl1, sl2, sl3, sl4] at hK ⊢
   go_wp2_with (go_at_call 45; refine (CN.out _ (bStep HB0.out h.bel)).mono ?_; rintro e w9 ⟨rfl, hb9⟩)
   all_goals (first | exact hK _ (h.step hb9) | exact (h.step hb9))
  case q4_20 =>
   intro bsE vsE W hlb hlv hnd hbk h
   obtain ⟨b0, b1, rfl⟩ := ll2 hlb
   obtain ⟨v0, v1, rfl⟩ := ll2 hlv
   obtain rfl : b0 = false := hbk
   replace h : EnS w0 y false b1 (v0) W := h
   clear hnd
   have HST := Lib.hid h
   obtain rfl := h.n rfl
   intro K Q hK
   simp only [putE, updAll, Act.put, sl1, sl2, sl3, sl4] at hK ⊢
   go_wp2_with fail
   all_goals (have hm := h.mk0)
   all_goals (first | exact hK _ _ hm | exact hm)
  case q4_21 =>
   intro bsE vsE W hlb hlv hnd hbk h
   obtain ⟨b0, b1, rfl⟩ := ll2 hlb
   obtain ⟨v0, v1, rfl⟩ := ll2 hlv
   obtain rfl : b0 = true := hnd 0 (by simp)
   obtain rfl : b1 = false := hbk
   replace h : EnS w0 y true false (v0) W := h
   clear hnd
   have HST := Lib.hid h
   obtain ⟨r, er, hr1, hr2⟩ := h.bx rfl; subst er
   intro K Q hK
   simp only [putE, updAll, Act.put, sl1, sl2, sl3, sl4] at hK ⊢
   refine wp_store_mid 31 (.tmp 8) (.tmp 28) rfl r 0 (entC y).toArray rfl rfl (by have h9 := ent_there2 hr2; simpa [entC_len] using h9) (by rw [ent_size]; simp [entC_len]) (entC_one y) ?_
   exact hK _ h.put
  all_goals
   intro bsE vsE W hlb hlv hnd h
   obtain ⟨b0, b1, rfl⟩ := ll2 hlb
   obtain ⟨v0, v1, rfl⟩ := ll2 hlv
   replace h : EnS w0 y b0 b1 (v0) W := h
   clear hnd
   have HST := Lib.hid h
   have hbw := bStep HB0.out h.bel; have c0 := cell_step HC.out.1 hbw; have c1 := cell_step HC.out.2.1 hbw; have c2 := cell_step HC.out.2.2.1 hbw; have c3 := cell_step HC.out.2.2.2 hbw; have l1 := Nat.lt_of_lt_of_le HLT.out.1 hbw.size; have l2 := Nat.lt_of_lt_of_le HLT.out.2 hbw.size; have HXW := blk_step HX.out h.bel; have x0 := blk_cell (o := 0) HXW rfl; have x1 := blk_cell (o := 1) HXW rfl; have x2 := blk_cell (o := 2) HXW rfl; have x3 := blk_cell (o := 3) HXW rfl; have x4 := blk_cell (o := 4) HXW rfl; have x5 := blk_cell (o := 5) HXW rfl; have xl := blk_lt HXW; clear HXW hbw
   intro K Q hK
   simp only [putE, updAll, Act.put, sl1, sl2, sl3, sl4] at hK ⊢
   go_wp2_with (fail)
   all_goals (first | exact hK _ h | exact h)
 case done =>
  intro vsE W hlv h
  obtain ⟨v0, v1, rfl⟩ := ll2 hlv
  replace h : EnS w0 y true true (v0) W := h
  have HST := Lib.hid h
  have HF := Lib.hid h
  clear h HST
  simp only [putE, updAll, Act.put, sl1, sl2, sl3, sl4]
  obtain ⟨r, er, hr1, hr2⟩ := HF.out.bx rfl
  subst er
  have hr3 : W.heap[r]? = some (.cells (entC y).toArray 31 (0, 0)) := hr2
  have HRW := Lib.hid hr1
  have HE1 : Hid (EnC B R g (.slice (some ⟨bb, ob, none⟩) g.bks.length cb) (.slice (some ⟨PB, 0, none⟩) g.qs.length cp) y r w.heap.size (k, t, ea, eb, nm, ot) (fun k => k = R ∨ k = PB ∨ q.ve.ownBlock = some k) w W) := ⟨H.out.step (bStep HB0.out HF.out.bel), hr3, blk_step HX.out HF.out.bel, KeepB.of_below (bStep HB0.out HF.out.bel)⟩
  have HN8 := Lib.hid hn8
  have HU := Lib.hid hu
  have HQ := Lib.hid hq
  have HQM := Lib.hid (List.mem_of_getElem? hq)
  have HRN : Hid (∀ k, q.ve.ownBlock = some k → k ≠ r) := fun k hk e => by have h1 := (World.ownsRow.lt (H.out.es q HQM.out) k hk).2; have h2 := HRW.out; have h3 := HB0.out.size; omega
  clear hr1 hr2 hr3 HF HC HLT
  go_upto_region 2 with fail
  refine region_all 11 11 60 [(5, 34), (10, 61)] [(none, []), (none, []), (none, []), (none, []), (none, []), (some 0, []), (none, [0]), (none, []), (none, []), (none, []), (some 1, [0])] [(29, (.pointer (some ⟨R, 0, none⟩))), (30, (.int .i64 (n : Int))), (31, (.pointer (some ⟨R, 0, none⟩))), (32, (.pointer (some ⟨R, 2, none⟩))), (33, (.pointer (some ⟨R, 2 + n, none⟩))), (35, (.int .i64 ((u : Int) + 1))), (36, (.pointer (some ⟨R, 0, none⟩))), (37, (.pointer (some ⟨R, 2, none⟩))), (38, (.pointer (some ⟨R, 2 + n, none⟩)))] (fun bsE vsE W => RmS (fun q9 W => EnC B R (bif q9 then { g with used := g.used.set n (u + 1) } else g) (.slice (some ⟨bb, ob, none⟩) g.bks.length cb) (.slice (some ⟨PB, 0, none⟩) g.qs.length cp) y r w.heap.size (k, t, ea, eb, nm, ot) (fun k => k = R ∨ k = PB ∨ q.ve.ownBlock = some k) w W) (.int .i64 (u : Int)) (bsE.getD 0 false) (bsE.getD 1 false) ((vsE.getD 0 undef)) W) (by kernel_rfl) (by kernel_rfl) rfl rfl (by kernel_rfl) (by rfl) ?h0 ?each ?done
  case h0 =>
   intro vsE hlv
   obtain ⟨v0, v1, rfl⟩ := ll2 hlv
   exact ⟨HE1.out.step (Below.refl _ _).drew, (fun e => by cases e), (fun _ => rfl)⟩
  case each =>
   simp only [AllE]
   refine ⟨⟨29, (.pointer (some ⟨R, 0, none⟩)), rfl, by kernel_rfl, ?_⟩, ⟨30, (.int .i64 (n : Int)), rfl, by kernel_rfl, ?_⟩, ⟨31, (.pointer (some ⟨R, 0, none⟩)), rfl, by kernel_rfl, ?_⟩, ⟨32, (.pointer (some ⟨R, 2, none⟩)), rfl, by kernel_rfl, ?_⟩, ⟨33, (.pointer (some ⟨R, 2 + n, none⟩)), rfl, by kernel_rfl, ?_⟩, Or.inl ⟨34, rfl, ?q3_5⟩, ⟨35, (.int .i64 ((u : Int) + 1)), rfl, by kernel_rfl, ?q3_6⟩, ⟨36, (.pointer (some ⟨R, 0, none⟩)), rfl, by kernel_rfl, ?_⟩, ⟨37, (.pointer (some ⟨R, 2, none⟩)), rfl, by kernel_rfl, ?_⟩, ⟨38, (.pointer (some ⟨R, 2 + n, none⟩)), rfl, by kernel_rfl, ?_⟩, Or.inr ⟨rfl, ?q3_10⟩, trivial⟩
   case q3_5 =>
    intro bsE vsE W hlb hlv hnd hbk h
    obtain ⟨b0, b1, rfl⟩ := ll2 hlb
    obtain ⟨v0, v1, rfl⟩ := ll2 hlv
    obtain rfl : b0 = false := hbk
    replace h : RmS (fun q9 W => EnC B R (bif q9 then { g with used := g.used.set n (u + 1) } else g) (.slice (some ⟨bb, ob, none⟩) g.bks.length cb) (.slice (some ⟨PB, 0, none⟩) g.qs.length cp) y r w.heap.size (k, t, ea, eb, nm, ot) (fun k => k = R ∨ k = PB ∨ q.ve.ownBlock = some k) w W) (.int .i64 (u : Int)) false b1 (v0) W := h
    clear hnd
    have HST := Lib.hid h
    obtain rfl := h.n rfl; have hs : EnC B R g (.slice (some ⟨bb, ob, none⟩) g.bks.length cb) (.slice (some ⟨PB, 0, none⟩) g.qs.length cp) y r w.heap.size (k, t, ea, eb, nm, ot) (fun k => k = R ∨ k = PB ∨ q.ve.ownBlock = some k) w W := h.s; have c := hs.ra.cells.2.2.2.2 n HN8.out; rw [HU.out] at c; have lB := hs.ra.cells.2.2.2.1
    intro K Q hK
    simp only [putE, updAll, Act.put, sl1, sl2, sl3, sl4] at hK ⊢
    go_wp2_with fail
    all_goals (have hN : RmS (fun q9 W => EnC B R (bif q9 then { g with used := g.used.set n (u + 1) } else g) (.slice (some ⟨bb, ob, none⟩) g.bks.length cb) (.slice (some ⟨PB, 0, none⟩) g.qs.length cp) y r w.heap.size (k, t, ea, eb, nm, ot) (fun k => k = R ∨ k = PB ∨ q.ve.ownBlock = some k) w W) (.int .i64 (u : Int)) true false ((.int .i64 (u : Int))) W := ⟨h.s, fun _ => rfl, (fun e => by cases e)⟩)
    all_goals (first | exact hK _ _ hN | exact hN)
   case q3_6 =>
    intro bsE vsE W hlb hlv hnd h
    obtain ⟨b0, b1, rfl⟩ := ll2 hlb
    obtain ⟨v0, v1, rfl⟩ := ll2 hlv
    obtain rfl : b0 = true := hnd 0 (by simp)
    replace h : RmS (fun q9 W => EnC B R (bif q9 then { g with used := g.used.set n (u + 1) } else g) (.slice (some ⟨bb, ob, none⟩) g.bks.length cb) (.slice (some ⟨PB, 0, none⟩) g.qs.length cp) y r w.heap.size (k, t, ea, eb, nm, ot) (fun k => k = R ∨ k = PB ∨ q.ve.ownBlock = some k) w W) (.int .i64 (u : Int)) true b1 (v0) W := h
    clear hnd
    have HST := Lib.hid h
    obtain rfl := h.v rfl
    intro K Q hK
    simp only [putE, updAll, Act.put, sl1, sl2, sl3, sl4] at hK ⊢
    go_wp2_with (fail)
    all_goals (first | exact hK _ h | exact h)
   case q3_10 =>
    intro bsE vsE W hlb hlv hnd hbk h
    obtain ⟨b0, b1, rfl⟩ := ll2 hlb
    obtain ⟨v0, v1, rfl⟩ := ll2 hlv
    obtain rfl : b0 = true := hnd 0 (by simp)
    obtain rfl : b1 = false := hbk
    replace h : RmS (fun q9 W => EnC B R (bif q9 then { g with used := g.used.set n (u + 1) } else g) (.slice (some ⟨bb, ob, none⟩) g.bks.length cb) (.slice (some ⟨PB, 0, none⟩) g.qs.length cp) y r w.heap.size (k, t, ea, eb, nm, ot) (fun k => k = R ∨ k = PB ∨ q.ve.ownBlock = some k) w W) (.int .i64 (u : Int)) true false (v0) W := h
    clear hnd
    have HST := Lib.hid h
    obtain rfl := h.v rfl; have hs : EnC B R g (.slice (some ⟨bb, ob, none⟩) g.bks.length cb) (.slice (some ⟨PB, 0, none⟩) g.qs.length cp) y r w.heap.size (k, t, ea, eb, nm, ot) (fun k => k = R ∨ k = PB ∨ q.ve.ownBlock = some k) w W := h.s; have c := hs.ra.cells.2.2.2.2 n HN8.out; rw [HU.out] at c; have lB := hs.ra.cells.2.2.2.1; have f := blk_free (o := 2 + n) hs.ra.reg; have hN0 := hs.used (k := n) (u := u + 1) HN8.out (Or.inl rfl); rw [show ((u + 1 : Nat) : Int) = (u : Int) + 1 from by push_cast; rfl] at hN0
    intro K Q hK
    simp only [putE, updAll, Act.put, sl1, sl2, sl3, sl4] at hK ⊢
    go_wp2_with fail
    all_goals (have hN : RmS (fun q9 W => EnC B R (bif q9 then { g with used := g.used.set n (u + 1) } else g) (.slice (some ⟨bb, ob, none⟩) g.bks.length cb) (.slice (some ⟨PB, 0, none⟩) g.qs.length cp) y r w.heap.size (k, t, ea, eb, nm, ot) (fun k => k = R ∨ k = PB ∨ q.ve.ownBlock = some k) w W) (.int .i64 (u : Int)) true true ((.int .i64 (u : Int))) (W.setCell ⟨R, 2 + n, none⟩ (.int .i64 ((u : Int) + 1))) := ⟨hN0, fun _ => rfl, (fun e => by cases e)⟩)
    all_goals (first | exact hK _ hN | exact hN)
   all_goals
    intro bsE vsE W hlb hlv hnd h
    obtain ⟨b0, b1, rfl⟩ := ll2 hlb
    obtain ⟨v0, v1, rfl⟩ := ll2 hlv
    replace h : RmS (fun q9 W => EnC B R (bif q9 then { g with used := g.used.set n (u + 1) } else g) (.slice (some ⟨bb, ob, none⟩) g.bks.length cb) (.slice (some ⟨PB, 0, none⟩) g.qs.length cp) y r w.heap.size (k, t, ea, eb, nm, ot) (fun k => k = R ∨ k = PB ∨ q.ve.ownBlock = some k) w W) (.int .i64 (u : Int)) b0 b1 (v0) W := h
    clear hnd
    have HST := Lib.hid h
    skip
    intro K Q hK
    simp only [putE, updAll, Act.put, sl1, sl2, sl3, sl4] at hK ⊢
    go_wp2_with (fail)
    all_goals (first | exact hK _ h | exact h)
  case done =>
   intro vsE W hlv h
   obtain ⟨v0, v1, rfl⟩ := ll2 hlv
   replace h : RmS (fun q9 W => EnC B R (bif q9 then { g with used := g.used.set n (u + 1) } else g) (.slice (some ⟨bb, ob, none⟩) g.bks.length cb) (.slice (some ⟨PB, 0, none⟩) g.qs.length cp) y r w.heap.size (k, t, ea, eb, nm, ot) (fun k => k = R ∨ k = PB ∨ q.ve.ownBlock = some k) w W) (.int .i64 (u : Int)) true true (v0) W := h
   have HST := Lib.hid h
   have HE2 : Hid (EnC B R { g with used := g.used.set n (u + 1) } (.slice (some ⟨bb, ob, none⟩) g.bks.length cb) (.slice (some ⟨PB, 0, none⟩) g.qs.length cp) y r w.heap.size (k, t, ea, eb, nm, ot) (fun k => k = R ∨ k = PB ∨ q.ve.ownBlock = some k) w W) := h.s
   clear h HST HE1
   simp only [putE, updAll, Act.put, sl1, sl2, sl3, sl4]
   have HBB : Hid (B ≤ W.drew.heap.size) := HE2.out.ra.base (W := W)
   go_upto_region 3 with fail
   refine region_all 11 11 60 [(4, 43), (5, 44), (6, 45), (7, 46), (10, 64)] [(none, []), (none, []), (none, []), (none, []), (some 0, []), (some 1, []), (some 2, [1]), (some 3, [0, 2]), (none, []), (none, []), (some 4, [3])] [(39, (.pointer (some ⟨PB, i * 20, none⟩))), (40, (.pointer (some ⟨PB, i * 20, none⟩))), (41, (.pointer (some ⟨PB, i * 20, none⟩))), (42, (.pointer (some ⟨PB, i * 20 + 19, none⟩))), (47, (.pointer (some ⟨PB, i * 20, none⟩))), (48, (.pointer (some ⟨PB, i * 20 + 19, none⟩)))] (fun bsE vsE W => ApS (fun W => EnC B R { g with used := g.used.set n (u + 1) } (.slice (some ⟨bb, ob, none⟩) g.bks.length cb) (.slice (some ⟨PB, 0, none⟩) g.qs.length cp) y r w.heap.size (k, t, ea, eb, nm, ot) (fun k => k = R ∨ k = PB ∨ q.ve.ownBlock = some k) w W) (fun W => ∃ v', EnC B R { g with used := g.used.set n (u + 1), qs := g.qs.set i { q with es := q.es ++ [y], ve := v' } } (.slice (some ⟨bb, ob, none⟩) g.bks.length cb) (.slice (some ⟨PB, 0, none⟩) g.qs.length cp) y r w.heap.size (k, t, ea, eb, nm, ot) (fun k => k = R ∨ k = PB ∨ q.ve.ownBlock = some k) w W ∧ (v'.ownBlock = q.ve.ownBlock ∨ ∃ k9, w.heap.size ≤ k9 ∧ v'.ownBlock = some k9)) B r y q.ve q.es.length (flatY q.es) (bsE.getD 0 false) (bsE.getD 1 false) (bsE.getD 2 false) (bsE.getD 3 false) (bsE.getD 4 false) ((vsE.getD 0 undef)) ((vsE.getD 1 undef)) ((vsE.getD 2 undef)) ((vsE.getD 3 undef)) W) (by kernel_rfl) (by kernel_rfl) rfl rfl (by kernel_rfl) (by rfl) ?h0 ?each ?done
   case h0 =>
    intro vsE hlv
    obtain ⟨v0, v1, v2, v3, v4, rfl⟩ := ll5 hlv
    exact ⟨fun _ => HE2.out.step (Below.refl _ _).drew, (fun e => by cases e), (fun e => by cases e), (fun e => by cases e), (fun e => by cases e), (fun _ => rfl), (fun _ => rfl), (fun _ => rfl), (fun e => by cases e), (fun _ => rfl), (fun _ => (HE2.out.step (Below.refl _ _).drew).yb), HBB.out⟩
   case each =>
    simp only [AllE]
    refine ⟨⟨39, (.pointer (some ⟨PB, i * 20, none⟩)), rfl, by kernel_rfl, ?_⟩, ⟨40, (.pointer (some ⟨PB, i * 20, none⟩)), rfl, by kernel_rfl, ?_⟩, ⟨41, (.pointer (some ⟨PB, i * 20, none⟩)), rfl, by kernel_rfl, ?_⟩, ⟨42, (.pointer (some ⟨PB, i * 20 + 19, none⟩)), rfl, by kernel_rfl, ?_⟩, Or.inl ⟨43, rfl, ?q2_4⟩, Or.inl ⟨44, rfl, ?q2_5⟩, Or.inl ⟨45, rfl, ?q2_6⟩, Or.inl ⟨46, rfl, ?q2_7⟩, ⟨47, (.pointer (some ⟨PB, i * 20, none⟩)), rfl, by kernel_rfl, ?_⟩, ⟨48, (.pointer (some ⟨PB, i * 20 + 19, none⟩)), rfl, by kernel_rfl, ?_⟩, Or.inr ⟨rfl, ?q2_10⟩, trivial⟩
    case q2_4 =>
     intro bsE vsE W hlb hlv hnd hbk h
     obtain ⟨b0, b1, b2, b3, b4, rfl⟩ := ll5 hlb
     obtain ⟨v0, v1, v2, v3, v4, rfl⟩ := ll5 hlv
     obtain rfl : b0 = false := hbk
     replace h : ApS (fun W => EnC B R { g with used := g.used.set n (u + 1) } (.slice (some ⟨bb, ob, none⟩) g.bks.length cb) (.slice (some ⟨PB, 0, none⟩) g.qs.length cp) y r w.heap.size (k, t, ea, eb, nm, ot) (fun k => k = R ∨ k = PB ∨ q.ve.ownBlock = some k) w W) (fun W => ∃ v', EnC B R { g with used := g.used.set n (u + 1), qs := g.qs.set i { q with es := q.es ++ [y], ve := v' } } (.slice (some ⟨bb, ob, none⟩) g.bks.length cb) (.slice (some ⟨PB, 0, none⟩) g.qs.length cp) y r w.heap.size (k, t, ea, eb, nm, ot) (fun k => k = R ∨ k = PB ∨ q.ve.ownBlock = some k) w W ∧ (v'.ownBlock = q.ve.ownBlock ∨ ∃ k9, w.heap.size ≤ k9 ∧ v'.ownBlock = some k9)) B r y q.ve q.es.length (flatY q.es) false b1 b2 b3 b4 (v0) (v1) (v2) (v3) W := h
     clear hnd
     have HST := Lib.hid h
     obtain rfl := h.n0 rfl; obtain rfl := h.n2 rfl; have hs : EnC B R { g with used := g.used.set n (u + 1) } (.slice (some ⟨bb, ob, none⟩) g.bks.length cb) (.slice (some ⟨PB, 0, none⟩) g.qs.length cp) y r w.heap.size (k, t, ea, eb, nm, ot) (fun k => k = R ∨ k = PB ∨ q.ve.ownBlock = some k) w W := h.a rfl; have hlf := hs.ra.life rfl HQ.out; have c := hlf.2.2; have lB := hlf.1.lt; clear hlf hs
     intro K Q hK
     simp only [putE, updAll, Act.put, sl1, sl2, sl3, sl4] at hK ⊢
     go_wp2_with fail
     all_goals (have hm := h.mk0)
     all_goals (first | exact hK _ _ hm | exact hm)
    case q2_5 =>
     intro bsE vsE W hlb hlv hnd hbk h
     obtain ⟨b0, b1, b2, b3, b4, rfl⟩ := ll5 hlb
     obtain ⟨v0, v1, v2, v3, v4, rfl⟩ := ll5 hlv
     obtain rfl : b1 = false := hbk
     replace h : ApS (fun W => EnC B R { g with used := g.used.set n (u + 1) } (.slice (some ⟨bb, ob, none⟩) g.bks.length cb) (.slice (some ⟨PB, 0, none⟩) g.qs.length cp) y r w.heap.size (k, t, ea, eb, nm, ot) (fun k => k = R ∨ k = PB ∨ q.ve.ownBlock = some k) w W) (fun W => ∃ v', EnC B R { g with used := g.used.set n (u + 1), qs := g.qs.set i { q with es := q.es ++ [y], ve := v' } } (.slice (some ⟨bb, ob, none⟩) g.bks.length cb) (.slice (some ⟨PB, 0, none⟩) g.qs.length cp) y r w.heap.size (k, t, ea, eb, nm, ot) (fun k => k = R ∨ k = PB ∨ q.ve.ownBlock = some k) w W ∧ (v'.ownBlock = q.ve.ownBlock ∨ ∃ k9, w.heap.size ≤ k9 ∧ v'.ownBlock = some k9)) B r y q.ve q.es.length (flatY q.es) b0 false b2 b3 b4 (v0) (v1) (v2) (v3) W := h
     clear hnd
     have HST := Lib.hid h
     obtain rfl := h.nY rfl; obtain rfl := h.n1 rfl; obtain rfl := h.n2 rfl
     intro K Q hK
     simp only [putE, updAll, Act.put, sl1, sl2, sl3, sl4] at hK ⊢
     refine wp_load_mid 31 (.tmp 8) rfl r 0 rfl (entC y) _ (fun j v hv => blk_cell (h.yb rfl) (by rw [Nat.zero_add]; simpa using hv)) Tryz.underlying31 rfl (by rw [ent_size, entC_len]) ?_
     exact hK _ _ h.mkY
    case q2_6 =>
     intro bsE vsE W hlb hlv hnd hbk h
     obtain ⟨b0, b1, b2, b3, b4, rfl⟩ := ll5 hlb
     obtain ⟨v0, v1, v2, v3, v4, rfl⟩ := ll5 hlv
     obtain rfl : b1 = true := hnd 1 (by simp)
     obtain rfl : b2 = false := hbk
     replace h : ApS (fun W => EnC B R { g with used := g.used.set n (u + 1) } (.slice (some ⟨bb, ob, none⟩) g.bks.length cb) (.slice (some ⟨PB, 0, none⟩) g.qs.length cp) y r w.heap.size (k, t, ea, eb, nm, ot) (fun k => k = R ∨ k = PB ∨ q.ve.ownBlock = some k) w W) (fun W => ∃ v', EnC B R { g with used := g.used.set n (u + 1), qs := g.qs.set i { q with es := q.es ++ [y], ve := v' } } (.slice (some ⟨bb, ob, none⟩) g.bks.length cb) (.slice (some ⟨PB, 0, none⟩) g.qs.length cp) y r w.heap.size (k, t, ea, eb, nm, ot) (fun k => k = R ∨ k = PB ∨ q.ve.ownBlock = some k) w W ∧ (v'.ownBlock = q.ve.ownBlock ∨ ∃ k9, w.heap.size ≤ k9 ∧ v'.ownBlock = some k9)) B r y q.ve q.es.length (flatY q.es) b0 true false b3 b4 (v0) (v1) (v2) (v3) W := h
     clear hnd
     have HST := Lib.hid h
     obtain rfl := h.ry rfl; obtain rfl := h.n1 rfl; obtain rfl := h.n2 rfl; have hm := h.mk1 (fun W w2 hW hb => hW.step hb)
     intro K Q hK
     simp only [putE, updAll, Act.put, sl1, sl2, sl3, sl4] at hK ⊢
     clear HST h
     revert hm
     obtain ⟨⟨yk, yt, ya, yb, yn, yo⟩, yy, yp, yh, yg⟩ := y
     unfold entX entC
     intro hm
     go_wp2_with fail
     all_goals (first | exact hK _ _ hm | exact hm)
    case q2_7 =>
     intro bsE vsE W hlb hlv hnd hbk h
     obtain ⟨b0, b1, b2, b3, b4, rfl⟩ := ll5 hlb
     obtain ⟨v0, v1, v2, v3, v4, rfl⟩ := ll5 hlv
     obtain rfl : b0 = true := hnd 0 (by simp)
     obtain rfl : b2 = true := hnd 2 (by simp)
     obtain rfl : b3 = false := hbk
     replace h : ApS (fun W => EnC B R { g with used := g.used.set n (u + 1) } (.slice (some ⟨bb, ob, none⟩) g.bks.length cb) (.slice (some ⟨PB, 0, none⟩) g.qs.length cp) y r w.heap.size (k, t, ea, eb, nm, ot) (fun k => k = R ∨ k = PB ∨ q.ve.ownBlock = some k) w W) (fun W => ∃ v', EnC B R { g with used := g.used.set n (u + 1), qs := g.qs.set i { q with es := q.es ++ [y], ve := v' } } (.slice (some ⟨bb, ob, none⟩) g.bks.length cb) (.slice (some ⟨PB, 0, none⟩) g.qs.length cp) y r w.heap.size (k, t, ea, eb, nm, ot) (fun k => k = R ∨ k = PB ∨ q.ve.ownBlock = some k) w W ∧ (v'.ownBlock = q.ve.ownBlock ∨ ∃ k9, w.heap.size ≤ k9 ∧ v'.ownBlock = some k9)) B r y q.ve q.es.length (flatY q.es) true b1 true false b4 (v0) (v1) (v2) (v3) W := h
     clear hnd
     have HST := Lib.hid h
     obtain rfl := h.n2 rfl
     intro K Q hK
     simp only [putE, updAll, Act.put, sl1, sl2, sl3, sl4] at hK ⊢
     exact h.app (fun W hW => hW.ra.es q HQM.out) HES.out (.tmp 43) (.tmp 45) rfl rfl rfl hK
    case q2_10 =>
     intro bsE vsE W hlb hlv hnd hbk h
     obtain ⟨b0, b1, b2, b3, b4, rfl⟩ := ll5 hlb
     obtain ⟨v0, v1, v2, v3, v4, rfl⟩ := ll5 hlv
     obtain rfl : b3 = true := hnd 3 (by simp)
     obtain rfl : b4 = false := hbk
     replace h : ApS (fun W => EnC B R { g with used := g.used.set n (u + 1) } (.slice (some ⟨bb, ob, none⟩) g.bks.length cb) (.slice (some ⟨PB, 0, none⟩) g.qs.length cp) y r w.heap.size (k, t, ea, eb, nm, ot) (fun k => k = R ∨ k = PB ∨ q.ve.ownBlock = some k) w W) (fun W => ∃ v', EnC B R { g with used := g.used.set n (u + 1), qs := g.qs.set i { q with es := q.es ++ [y], ve := v' } } (.slice (some ⟨bb, ob, none⟩) g.bks.length cb) (.slice (some ⟨PB, 0, none⟩) g.qs.length cp) y r w.heap.size (k, t, ea, eb, nm, ot) (fun k => k = R ∨ k = PB ∨ q.ve.ownBlock = some k) w W ∧ (v'.ownBlock = q.ve.ownBlock ∨ ∃ k9, w.heap.size ≤ k9 ∧ v'.ownBlock = some k9)) B r y q.ve q.es.length (flatY q.es) b0 b1 b2 true false (v0) (v1) (v2) (v3) W := h
     clear hnd
     have HST := Lib.hid h
     obtain ⟨Wb, p1, p2, p3, p4⟩ := h.m rfl rfl; obtain ⟨a9, c9, e9, -⟩ := Rw.Own.get (r := ⟨31, 10, _, q.es.length + 1, _⟩) p4; dsimp only at e9; subst e9; obtain ⟨PB2, cp2, cur, ea, -, hPB, hcl⟩ := p1.ra.packs (by rintro e; have h9 := HQ.out; rw [show g.qs = [] from e] at h9; cases h9); cases ea; have hPB5 := blk_kept hPB p2 (p1.ra.es q HQM.out) (by decide); have c := blk_cell hPB5 (hcl i q HQ.out 19 _ rfl); have f := blk_free (o := i * 20 + 19) hPB5; have lB := blk_lt hPB5; have hN0 : ApS (fun W => EnC B R { g with used := g.used.set n (u + 1) } (.slice (some ⟨bb, ob, none⟩) g.bks.length cb) (.slice (some ⟨PB, 0, none⟩) g.qs.length cp) y r w.heap.size (k, t, ea, eb, nm, ot) (fun k => k = R ∨ k = PB ∨ q.ve.ownBlock = some k) w W) (fun W => ∃ v', EnC B R { g with used := g.used.set n (u + 1), qs := g.qs.set i { q with es := q.es ++ [y], ve := v' } } (.slice (some ⟨bb, ob, none⟩) g.bks.length cb) (.slice (some ⟨PB, 0, none⟩) g.qs.length cp) y r w.heap.size (k, t, ea, eb, nm, ot) (fun k => k = R ∨ k = PB ∨ q.ve.ownBlock = some k) w W ∧ (v'.ownBlock = q.ve.ownBlock ∨ ∃ k9, w.heap.size ≤ k9 ∧ v'.ownBlock = some k9)) B r y q.ve q.es.length (flatY q.es) b0 b1 b2 true true (v0) (v1) (v2) ((.slice a9 (q.es.length + 1) c9)) (W.setCell ⟨PB, i * 20 + 19, none⟩ (.slice a9 (q.es.length + 1) c9)) := ⟨(fun e => by cases e), (fun _ e => by cases e), (fun _ => ⟨_, p1.ents rfl HQ.out p2 p4 p3 HRN.out (Or.inr (Or.inl rfl)) (fun k hk _ => Or.inr (Or.inr hk)), p3.imp id (fun e9 => ⟨_, p1.kp.size, e9⟩)⟩), h.r0, (fun _ e => by cases e), h.n0, h.n1, (fun e => by cases e), h.ry, h.nY, (fun e => by cases e), by simpa using h.hb⟩; clear hPB hcl hPB5 p1 p2 p3 p4
     intro K Q hK
     simp only [putE, updAll, Act.put, sl1, sl2, sl3, sl4] at hK ⊢
     go_wp2_with fail
     all_goals (first | exact hK _ hN0 | exact hN0)
    all_goals
     intro bsE vsE W hlb hlv hnd h
     obtain ⟨b0, b1, b2, b3, b4, rfl⟩ := ll5 hlb
     obtain ⟨v0, v1, v2, v3, v4, rfl⟩ := ll5 hlv
     replace h : ApS (fun W => EnC B R { g with used := g.used.set n (u + 1) } (.slice (some ⟨bb, ob, none⟩) g.bks.length cb) (.slice (some ⟨PB, 0, none⟩) g.qs.length cp) y r w.heap.size (k, t, ea, eb, nm, ot) (fun k => k = R ∨ k = PB ∨ q.ve.ownBlock = some k) w W) (fun W => ∃ v', EnC B R { g with used := g.used.set n (u + 1), qs := g.qs.set i { q with es := q.es ++ [y], ve := v' } } (.slice (some ⟨bb, ob, none⟩) g.bks.length cb) (.slice (some ⟨PB, 0, none⟩) g.qs.length cp) y r w.heap.size (k, t, ea, eb, nm, ot) (fun k => k = R ∨ k = PB ∨ q.ve.ownBlock = some k) w W ∧ (v'.ownBlock = q.ve.ownBlock ∨ ∃ k9, w.heap.size ≤ k9 ∧ v'.ownBlock = some k9)) B r y q.ve q.es.length (flatY q.es) b0 b1 b2 b3 b4 (v0) (v1) (v2) (v3) W := h
     clear hnd
     have HST := Lib.hid h
     skip
     intro K Q hK
     simp only [putE, updAll, Act.put, sl1, sl2, sl3, sl4] at hK ⊢
     go_wp2_with (fail)
     all_goals (first | exact hK _ h | exact h)
   case done =>
    intro vsE W hlv h
    obtain ⟨v0, v1, v2, v3, v4, rfl⟩ := ll5 hlv
    replace h : ApS (fun W => EnC B R { g with used := g.used.set n (u + 1) } (.slice (some ⟨bb, ob, none⟩) g.bks.length cb) (.slice (some ⟨PB, 0, none⟩) g.qs.length cp) y r w.heap.size (k, t, ea, eb, nm, ot) (fun k => k = R ∨ k = PB ∨ q.ve.ownBlock = some k) w W) (fun W => ∃ v', EnC B R { g with used := g.used.set n (u + 1), qs := g.qs.set i { q with es := q.es ++ [y], ve := v' } } (.slice (some ⟨bb, ob, none⟩) g.bks.length cb) (.slice (some ⟨PB, 0, none⟩) g.qs.length cp) y r w.heap.size (k, t, ea, eb, nm, ot) (fun k => k = R ∨ k = PB ∨ q.ve.ownBlock = some k) w W ∧ (v'.ownBlock = q.ve.ownBlock ∨ ∃ k9, w.heap.size ≤ k9 ∧ v'.ownBlock = some k9)) B r y q.ve q.es.length (flatY q.es) true true true true true (v0) (v1) (v2) (v3) W := h
    have HST := Lib.hid h
    have HE3 : Hid (∃ v', EnC B R { g with used := g.used.set n (u + 1), qs := g.qs.set i { q with es := q.es ++ [y], ve := v' } } (.slice (some ⟨bb, ob, none⟩) g.bks.length cb) (.slice (some ⟨PB, 0, none⟩) g.qs.length cp) y r w.heap.size (k, t, ea, eb, nm, ot) (fun k => k = R ∨ k = PB ∨ q.ve.ownBlock = some k) w W ∧ (v'.ownBlock = q.ve.ownBlock ∨ ∃ k9, w.heap.size ≤ k9 ∧ v'.ownBlock = some k9)) := h.z rfl
    clear h HST HE2
    simp only [putE, updAll, Act.put, sl1, sl2, sl3, sl4]
    obtain ⟨v', E3, HV3⟩ := HE3.out
    have HVF := Lib.hid HV3
    clear HV3
    have hi4 := (List.getElem?_eq_some_iff.1 HQ.out).1
    have HH4 : Hid ((g.qs.set i { q with es := q.es ++ [y], ve := v' })[i]? = some { q with es := q.es ++ [y], ve := v' }) := Lib.hid (List.getElem?_set_self hi4)
    have hv4 : (Value.slice (some ⟨PB, 0, none⟩) g.qs.length cp) = .slice (some ⟨PB, 0, none⟩) (g.qs.set i { q with es := q.es ++ [y], ve := v' }).length cp := by rw [List.length_set]
    have c8 : W.cell? ⟨r, 8, none⟩ = some (.int .u64 (y.2.2.2.1 : Int)) := blk_cell E3.yb rfl
    have f8 : W.frozen? ⟨PB, i * 20 + 18, none⟩ = false := (E3.ra.life hv4 HH4.out).1.free 18
    have c18 : W.cell? ⟨PB, i * 20 + 18, none⟩ = some (.int .u64 (q.hd : Int)) := (E3.ra.life hv4 HH4.out).2.1
    have E4 : Hid (EnC B R { g with used := g.used.set n (u + 1), qs := g.qs.set i { q with es := q.es ++ [y], ve := v', hd := y.2.2.2.1 } } (.slice (some ⟨bb, ob, none⟩) g.bks.length cb) (.slice (some ⟨PB, 0, none⟩) g.qs.length cp) y r w.heap.size (k, t, ea, eb, nm, ot) (fun k => k = R ∨ k = PB ∨ q.ve.ownBlock = some k) w (W.setCell ⟨PB, i * 20 + 18, none⟩ (.int .u64 (y.2.2.2.1 : Int)))) := by
     have h9 : EnC B R { g with used := g.used.set n (u + 1), qs := (g.qs.set i { q with es := q.es ++ [y], ve := v' }).set i { q with es := q.es ++ [y], ve := v', hd := y.2.2.2.1 } } (.slice (some ⟨bb, ob, none⟩) g.bks.length cb) (.slice (some ⟨PB, 0, none⟩) g.qs.length cp) y r w.heap.size (k, t, ea, eb, nm, ot) (fun k => k = R ∨ k = PB ∨ q.ve.ownBlock = some k) w (W.setCell ⟨PB, i * 20 + 18, none⟩ (.int .u64 (y.2.2.2.1 : Int))) := EnC.hd E3 hv4 HH4.out (Or.inr (Or.inl rfl)) y.2.2.2.1
     rw [List.set_set] at h9
     exact h9
    have HH5 : Hid ((g.qs.set i { q with es := q.es ++ [y], ve := v', hd := y.2.2.2.1 })[i]? = some { q with es := q.es ++ [y], ve := v', hd := y.2.2.2.1 }) := Lib.hid (List.getElem?_set_self hi4)
    have hv5 : (Value.slice (some ⟨PB, 0, none⟩) g.qs.length cp) = .slice (some ⟨PB, 0, none⟩) (g.qs.set i { q with es := q.es ++ [y], ve := v', hd := y.2.2.2.1 }).length cp := by rw [List.length_set]
    have HV5 := Lib.hid hv5
    clear HE3 E3 hv4 HH4 hv5 hi4
    go_upto_region 5 with fail
    refine region_all 5 5 60 [(4, 59)] [(none, []), (none, []), (none, []), (none, []), (some 0, [])] [(55, (.pointer (some ⟨PB, i * 20, none⟩))), (56, (.pointer (some ⟨PB, i * 20, none⟩))), (57, (.pointer (some ⟨PB, i * 20, none⟩))), (58, (.agg #[.int .i64 k, .int .i64 t, .int .i64 ea, .int .i64 eb, .string nm, .string ot]))] (fun bsE vsE W => OneS (fun W => W.heap[w.heap.size]? = some (.cells (evtC (k, t, ea, eb, nm, ot)).toArray 29 (0, 0))) (fun W => EnC B R { g with used := g.used.set n (u + 1), qs := g.qs.set i { q with es := q.es ++ [y], ve := v', hd := y.2.2.2.1 } } (.slice (some ⟨bb, ob, none⟩) g.bks.length cb) (.slice (some ⟨PB, 0, none⟩) g.qs.length cp) y r w.heap.size (k, t, ea, eb, nm, ot) (fun k => k = R ∨ k = PB ∨ q.ve.ownBlock = some k) w W) (fun W => ∃ vm' vo', EnC B R { g with used := g.used.set n (u + 1), qs := g.qs.set i { q with es := q.es ++ [y], ve := v', hd := y.2.2.2.1, life := q.life.add q.nm (k, t, ea, eb, nm, ot), vm := vm', vo := vo' } } (.slice (some ⟨bb, ob, none⟩) g.bks.length cb) (.slice (some ⟨PB, 0, none⟩) g.qs.length cp) y r w.heap.size (k, t, ea, eb, nm, ot) (fun k => k = R ∨ k = PB ∨ q.ve.ownBlock = some k) w W ∧ X vm' vo') (bsE.getD 0 false) W) (by kernel_rfl) (by kernel_rfl) rfl rfl (by kernel_rfl) (by rfl) ?h0 ?each ?done
    case h0 =>
     intro vsE hlv
     obtain ⟨v0, rfl⟩ := ll1 hlv
     exact ⟨(E4.out.step (Below.refl _ _).drew).eb, (fun _ => E4.out.step (Below.refl _ _).drew), (fun e => by cases e)⟩
    case each =>
     simp only [AllE]
     refine ⟨⟨55, (.pointer (some ⟨PB, i * 20, none⟩)), rfl, by kernel_rfl, ?_⟩, ⟨56, (.pointer (some ⟨PB, i * 20, none⟩)), rfl, by kernel_rfl, ?_⟩, ⟨57, (.pointer (some ⟨PB, i * 20, none⟩)), rfl, by kernel_rfl, ?_⟩, ⟨58, (.agg #[.int .i64 k, .int .i64 t, .int .i64 ea, .int .i64 eb, .string nm, .string ot]), rfl, by kernel_rfl, ?_⟩, Or.inl ⟨59, rfl, ?q1_4⟩, trivial⟩
     case q1_4 =>
      intro bsE vsE W hlb hlv hnd hbk h
      obtain ⟨b0, rfl⟩ := ll1 hlb
      obtain ⟨v0, rfl⟩ := ll1 hlv
      obtain rfl : b0 = false := hbk
      replace h : OneS (fun W => W.heap[w.heap.size]? = some (.cells (evtC (k, t, ea, eb, nm, ot)).toArray 29 (0, 0))) (fun W => EnC B R { g with used := g.used.set n (u + 1), qs := g.qs.set i { q with es := q.es ++ [y], ve := v', hd := y.2.2.2.1 } } (.slice (some ⟨bb, ob, none⟩) g.bks.length cb) (.slice (some ⟨PB, 0, none⟩) g.qs.length cp) y r w.heap.size (k, t, ea, eb, nm, ot) (fun k => k = R ∨ k = PB ∨ q.ve.ownBlock = some k) w W) (fun W => ∃ vm' vo', EnC B R { g with used := g.used.set n (u + 1), qs := g.qs.set i { q with es := q.es ++ [y], ve := v', hd := y.2.2.2.1, life := q.life.add q.nm (k, t, ea, eb, nm, ot), vm := vm', vo := vo' } } (.slice (some ⟨bb, ob, none⟩) g.bks.length cb) (.slice (some ⟨PB, 0, none⟩) g.qs.length cp) y r w.heap.size (k, t, ea, eb, nm, ot) (fun k => k = R ∨ k = PB ∨ q.ve.ownBlock = some k) w W ∧ X vm' vo') false W := h
      clear hnd
      have HST := Lib.hid h
      have hs : EnC B R { g with used := g.used.set n (u + 1), qs := g.qs.set i { q with es := q.es ++ [y], ve := v', hd := y.2.2.2.1 } } (.slice (some ⟨bb, ob, none⟩) g.bks.length cb) (.slice (some ⟨PB, 0, none⟩) g.qs.length cp) y r w.heap.size (k, t, ea, eb, nm, ot) (fun k => k = R ∨ k = PB ∨ q.ve.ownBlock = some k) w W := h.a rfl; have hlf := hs.ra.life HV5.out HH5.out; have hms := (hs.ra.ms _ (List.mem_of_getElem? HH5.out)).2.2
      intro K Q hK
      simp only [putE, updAll, Act.put, sl1, sl2, sl3, sl4] at hK ⊢
      go_wp2_with (go_at_call 46; refine (CA.out _ hs.kp.size hlf.1 hms).mono ?_; rintro en w9 ⟨rfl, vm', vo', hl9, ho9, hx9⟩)
      all_goals (have h9 : EnC B R { g with used := g.used.set n (u + 1), qs := (g.qs.set i { q with es := q.es ++ [y], ve := v', hd := y.2.2.2.1 }).set i { q with es := q.es ++ [y], ve := v', hd := y.2.2.2.1, life := q.life.add q.nm (k, t, ea, eb, nm, ot), vm := vm', vo := vo' } } (.slice (some ⟨bb, ob, none⟩) g.bks.length cb) (.slice (some ⟨PB, 0, none⟩) g.qs.length cp) y r w.heap.size (k, t, ea, eb, nm, ot) (fun k => k = R ∨ k = PB ∨ q.ve.ownBlock = some k) w w9 := EnC.life hs HV5.out HH5.out (Or.inr (Or.inl rfl)) hl9 ho9 (Nat.succ_ne_zero _))
      all_goals (rw [List.set_set] at h9)
      all_goals (have hm : OneS (fun W => W.heap[w.heap.size]? = some (.cells (evtC (k, t, ea, eb, nm, ot)).toArray 29 (0, 0))) (fun W => EnC B R { g with used := g.used.set n (u + 1), qs := g.qs.set i { q with es := q.es ++ [y], ve := v', hd := y.2.2.2.1 } } (.slice (some ⟨bb, ob, none⟩) g.bks.length cb) (.slice (some ⟨PB, 0, none⟩) g.qs.length cp) y r w.heap.size (k, t, ea, eb, nm, ot) (fun k => k = R ∨ k = PB ∨ q.ve.ownBlock = some k) w W) (fun W => ∃ vm' vo', EnC B R { g with used := g.used.set n (u + 1), qs := g.qs.set i { q with es := q.es ++ [y], ve := v', hd := y.2.2.2.1, life := q.life.add q.nm (k, t, ea, eb, nm, ot), vm := vm', vo := vo' } } (.slice (some ⟨bb, ob, none⟩) g.bks.length cb) (.slice (some ⟨PB, 0, none⟩) g.qs.length cp) y r w.heap.size (k, t, ea, eb, nm, ot) (fun k => k = R ∨ k = PB ∨ q.ve.ownBlock = some k) w W ∧ X vm' vo') true w9 := ⟨h9.eb, (fun e => by cases e), fun _ => ⟨vm', vo', h9, hx9⟩⟩)
      all_goals (first | exact hK _ _ hm | exact hm)
     all_goals
      intro bsE vsE W hlb hlv hnd h
      obtain ⟨b0, rfl⟩ := ll1 hlb
      obtain ⟨v0, rfl⟩ := ll1 hlv
      replace h : OneS (fun W => W.heap[w.heap.size]? = some (.cells (evtC (k, t, ea, eb, nm, ot)).toArray 29 (0, 0))) (fun W => EnC B R { g with used := g.used.set n (u + 1), qs := g.qs.set i { q with es := q.es ++ [y], ve := v', hd := y.2.2.2.1 } } (.slice (some ⟨bb, ob, none⟩) g.bks.length cb) (.slice (some ⟨PB, 0, none⟩) g.qs.length cp) y r w.heap.size (k, t, ea, eb, nm, ot) (fun k => k = R ∨ k = PB ∨ q.ve.ownBlock = some k) w W) (fun W => ∃ vm' vo', EnC B R { g with used := g.used.set n (u + 1), qs := g.qs.set i { q with es := q.es ++ [y], ve := v', hd := y.2.2.2.1, life := q.life.add q.nm (k, t, ea, eb, nm, ot), vm := vm', vo := vo' } } (.slice (some ⟨bb, ob, none⟩) g.bks.length cb) (.slice (some ⟨PB, 0, none⟩) g.qs.length cp) y r w.heap.size (k, t, ea, eb, nm, ot) (fun k => k = R ∨ k = PB ∨ q.ve.ownBlock = some k) w W ∧ X vm' vo') b0 W := h
      clear hnd
      have HST := Lib.hid h
      have HXW : W.heap[w.heap.size]? = some (.cells (evtC (k, t, ea, eb, nm, ot)).toArray 29 (0, 0)) := h.p; have x0 := blk_cell (o := 0) HXW rfl; have x1 := blk_cell (o := 1) HXW rfl; have x2 := blk_cell (o := 2) HXW rfl; have x3 := blk_cell (o := 3) HXW rfl; have x4 := blk_cell (o := 4) HXW rfl; have x5 := blk_cell (o := 5) HXW rfl; have xl := blk_lt HXW; clear HXW
      intro K Q hK
      simp only [putE, updAll, Act.put, sl1, sl2, sl3, sl4] at hK ⊢
      go_wp2_with (fail)
      all_goals (first | exact hK _ h | exact h)
    case done =>
     intro vsE W hlv h
     obtain ⟨v0, rfl⟩ := ll1 hlv
     replace h : OneS (fun W => W.heap[w.heap.size]? = some (.cells (evtC (k, t, ea, eb, nm, ot)).toArray 29 (0, 0))) (fun W => EnC B R { g with used := g.used.set n (u + 1), qs := g.qs.set i { q with es := q.es ++ [y], ve := v', hd := y.2.2.2.1 } } (.slice (some ⟨bb, ob, none⟩) g.bks.length cb) (.slice (some ⟨PB, 0, none⟩) g.qs.length cp) y r w.heap.size (k, t, ea, eb, nm, ot) (fun k => k = R ∨ k = PB ∨ q.ve.ownBlock = some k) w W) (fun W => ∃ vm' vo', EnC B R { g with used := g.used.set n (u + 1), qs := g.qs.set i { q with es := q.es ++ [y], ve := v', hd := y.2.2.2.1, life := q.life.add q.nm (k, t, ea, eb, nm, ot), vm := vm', vo := vo' } } (.slice (some ⟨bb, ob, none⟩) g.bks.length cb) (.slice (some ⟨PB, 0, none⟩) g.qs.length cp) y r w.heap.size (k, t, ea, eb, nm, ot) (fun k => k = R ∨ k = PB ∨ q.ve.ownBlock = some k) w W ∧ X vm' vo') true W := h
     have HST := Lib.hid h
     obtain ⟨vm', vo', E5, HX5⟩ := h.z rfl
     simp only [putE, updAll, Act.put, sl1, sl2, sl3, sl4]
     go_wp2_with fail
     exact bodyPost_end (results_none rfl _ _ _) rfl ⟨rfl, vm', vo', v', E5.ra, E5.kp, HVF.out, HX5⟩
end Go.Proofs.YtmpilgkfbibhlaaGreatDoor
namespace Go.Proofs.YtmpilgkfbibhlaaGreatDoor
open Sx Go.RowKit Mr
structure RegA where
 pt : Nat
 bks : List Bk
 used : List Nat
 ps : List (ByteArray × List Ent)
def RegS.abs (g : RegS) : RegA := ⟨g.pt, g.bks, g.used, g.qs.map fun q => (q.nm, q.es)⟩
def leftA (a : RegA) (b : Int) : Int := if 0 ≤ b ∧ b < a.bks.length then ((a.bks.getD b.toNat (0, [])).2.length : Int) - (a.used.getD b.toNat 0 : Nat) else 0
theorem left_abs (g : RegS) (b : Int) : leftR g b = leftA g.abs b := rfl
def lf (p : ByteArray × List Ent) : LifeS := lifeOf p.1 (evsOf p.2)
def findA (nm : ByteArray) (a : RegA) : Nat := a.ps.findIdx fun p => eqT p.1 nm
def whereA (m : ByteArray) (a : RegA) : Nat := a.ps.findIdx fun p => hasT (lf p).ms m
def putP (a : RegA) (n : Nat) (e : Evt) (p : ByteArray × List Ent) : ByteArray × List Ent := (p.1, p.2 ++ [nextE a.pt a.bks (headOf a.pt p.1 p.2) e n (a.used.getD n 0)])
def putA (a : RegA) (n i : Nat) (e : Evt) : RegA := match a.ps[i]? with
 | none => a
 | some p => { a with used := a.used.set n (a.used.getD n 0 + 1), ps := a.ps.set i (putP a n e p) }
theorem putA_at {a : RegA} {n i : Nat} {e : Evt} {p : ByteArray × List Ent} (h : a.ps[i]? = some p) : putA a n i e = { a with used := a.used.set n (a.used.getD n 0 + 1), ps := a.ps.set i (putP a n e p) } := by unfold putA; rw [h]
def enterA (a : RegA) (b : Int) (nm : ByteArray) (e : Evt) : Int × RegA :=
 if ¬ (0 ≤ b ∧ b < a.bks.length) then (3, a) else
 if ¬ (nameB nm = true ∧ okX e = true ∧ e.1 ≠ 5 ∧ e.1 ≠ 6) then (2, a) else
 if e.1 = 1 then
  if findA nm a < a.ps.length then (12, a) else if 100 ≤ a.ps.length then (11, a) else if leftA a b < 1 then (4, a) else
  (0, putA { a with ps := a.ps ++ [(nm, [])] } b.toNat a.ps.length e)
 else match a.ps[findA nm a]? with
  | none => (5, a)
  | some p => if canP p.1 (lf p) e = false then (10, a) else if 500 ≤ p.2.length then (11, a) else if leftA a b < 1 then (4, a) else (0, putA a b.toNat (findA nm a) e)
def emp : ByteArray := ⟨#[]⟩
def takeE (t : Int) (m to : ByteArray) : Evt := (6, t, 0, 0, m, to)
def bringE (t : Int) (m nm : ByteArray) : Evt := (5, t, 0, 0, m, nm)
def recE (t : Int) (r : ByteArray) : Evt := (7, t, 0, 0, r, emp)
def timeB (t : Int) : Bool := decide (0 ≤ t ∧ t ≤ 1099511627776)
def moveA (a : RegA) (b t : Int) (m to : ByteArray) : Int × RegA :=
 if ¬ (0 ≤ b ∧ b < a.bks.length) then (3, a) else
 if ¬ (modB m = true ∧ nameB to = true ∧ timeB t = true) then (2, a) else
 match a.ps[whereA m a]?, a.ps[findA to a]? with
 | some p, some q =>
  if whereA m a = findA to a ∨ canP p.1 (lf p) (takeE t m to) = false ∨ canP q.1 (lf q) (bringE t m p.1) = false then (10, a) else
  if 500 ≤ p.2.length ∨ 500 ≤ q.2.length then (11, a) else if leftA a b < 2 then (4, a) else
  (0, putA (putA a b.toNat (whereA m a) (takeE t m to)) b.toNat (findA to a) (bringE t m p.1))
 | _, _ => (5, a)
def hitA (a : RegA) (bt : ByteArray) (t0 t1 : Int) (m : ByteArray) : Bool := match a.ps[findA (cutS m).1 a]? with
 | some o => eqT (lf o).made.2.2.2.2.1 bt && decide (t0 ≤ (lf o).made.2.1) && decide ((lf o).made.2.1 ≤ t1)
 | none => false
def affP (a : RegA) (bt : ByteArray) (t0 t1 : Int) (r : ByteArray) (p : ByteArray × List Ent) : Bool := !(hasT (lf p).os r) && (lf p).ms.any (hitA a bt t0 t1)
def affA (a : RegA) (bt : ByteArray) (t0 t1 : Int) (r : ByteArray) : List Nat := (List.range a.ps.length).filter fun i => match a.ps[i]? with
 | some p => affP a bt t0 t1 r p
 | none => false
def recsA (t : Int) (r : ByteArray) (n : Nat) (l : List Nat) (a : RegA) : RegA := l.foldl (fun a i => putA a n i (recE t r)) a
def nameA (a : RegA) (i : Nat) : ByteArray := (a.ps.getD i (emp, [])).1
def packA (a : RegA) (i : Nat) : ByteArray × List Ent := a.ps.getD i (emp, [])
def recallA (a : RegA) (b t : Int) (bt : ByteArray) (t0 t1 : Int) (r : ByteArray) : Int × List ByteArray × RegA :=
 if ¬ (0 ≤ b ∧ b < a.bks.length) then (3, [], a) else
 if ¬ (nameB bt = true ∧ nameB r = true ∧ timeB t = true ∧ timeB t0 = true ∧ timeB t1 = true) then (2, [], a) else
 if (affA a bt t0 t1 r).any (fun i => decide (t < (lf (packA a i)).at_)) = true then (10, [], a) else
 if (affA a bt t0 t1 r).any (fun i => decide (500 ≤ (packA a i).2.length)) = true then (11, [], a) else
 if leftA a b < (affA a bt t0 t1 r).length then (4, [], a) else
 (0, (affA a bt t0 t1 r).map (nameA a), recsA t r b.toNat (affA a bt t0 t1 r) a)
structure OkB (a : RegA) : Prop where
 sec : secR a.pt a.bks = 0
 u8 : a.used.length = 8
 us : ∀ k, a.used.getD k 0 ≤ (a.bks.getD k (0, [])).2.length
 np : a.ps.length ≤ 100
 p : ∀ p ∈ a.ps, p.2.length ≤ 500 ∧ LegH p.1 (evsOf p.2) ∧ (∀ e ∈ evsOf p.2, okX e = true) ∧ nameB p.1 = true
structure OkA (a : RegA) : Prop extends OkB a where
 ne : ∀ p ∈ a.ps, p.2 ≠ []
 nm : ∀ (i j : Nat) (p q : ByteArray × List Ent), a.ps[i]? = some p → a.ps[j]? = some q → p.1 = q.1 → i = j
 org : ∀ p ∈ a.ps, ∀ m ∈ (lf p).ms, ∃ o ∈ a.ps, o.1 = (cutS m).1
theorem nameB_size {s : ByteArray} (h : nameB s = true) : 1 ≤ s.size ∧ s.size ≤ 20 := by
 unfold nameB at h
 rw [Bool.and_eq_true] at h
 have := of_decide_eq_true h.1
 omega
structure RegV (B R : Nat) (vb : Value) (a : RegA) (g : RegS) (vp : Value) (W : World) : Prop where
 ra : RegAt B R g vb vp W
 abs : g.abs = a
 lf : ∀ q ∈ g.qs, q.life = lifeOf q.nm (evsOf q.es) ∧ q.hd = headOf g.pt q.nm q.es
def OwnR (R : Nat) (g : RegS) (vp : Value) (k : Nat) : Prop := k = R ∨ vp.ownBlock = some k ∨ ∃ q ∈ g.qs, q.ve.ownBlock = some k
def NoS (k : Nat) (g : RegS) : Prop := ∀ q ∈ g.qs, (q.life.ms ≠ [] → q.vm.ownBlock ≠ some k) ∧ (q.life.os ≠ [] → q.vo.ownBlock ≠ some k)
structure Moved (R : Nat) (g : RegS) (vp : Value) (g' : RegS) (vp' : Value) (w W : World) : Prop where
 kp : KeepB (OwnR R g vp) w W
 own : ∀ k, OwnR R g' vp' k → OwnR R g vp k ∨ w.heap.size ≤ k
 ns : ∀ k, k < w.heap.size → NoS k g → NoS k g'
section
variable {B R : Nat} {g g1 g2 : RegS} {vb vp vp1 vp2 : Value} {a : RegA} {w w1 w2 W : World}
theorem Moved.refl : Moved R g vp g vp w w := ⟨KeepB.of_below (Below.refl _ _), fun _ h => Or.inl h, fun _ _ h => h⟩
theorem Moved.of_below (h : Below w.heap.size w W) : Moved R g vp g vp w W := ⟨KeepB.of_below h, fun _ h => Or.inl h, fun _ _ h => h⟩
theorem Moved.trans (h1 : Moved R g vp g1 vp1 w w1) (h2 : Moved R g1 vp1 g2 vp2 w1 w2) : Moved R g vp g2 vp2 w w2 := by
 refine ⟨⟨h2.kp.os.trans h1.kp.os, h2.kp.tape.trans h1.kp.tape, h2.kp.output.trans h1.kp.output, Nat.le_trans h1.kp.size h2.kp.size, fun k hk hn => ?_⟩, fun k hk => ?_, fun k hk hn => h2.ns k (Nat.lt_of_lt_of_le hk h1.kp.size) (h1.ns k hk hn)⟩
 ·rw [h2.kp.block k (Nat.lt_of_lt_of_le hk h1.kp.size) (fun c => ?_), h1.kp.block k hk hn]
  rcases h1.own k c with c | c
  ·exact hn c
  ·omega
 ·rcases h2.own k hk with c | c
  ·exact h1.own k c
  ·exact Or.inr (Nat.le_trans h1.kp.size c)
theorem Moved.step (h : Moved R g vp g1 vp1 w w1) (hb : Below w1.heap.size w1 W) : Moved R g vp g1 vp1 w W := h.trans (Moved.of_below hb)
theorem Moved.pre (hb : Below w.heap.size w w1) (h : Moved R g vp g1 vp1 w1 W) : Moved R g vp g1 vp1 w W := (Moved.of_below hb).trans h
theorem RegAt.ownT (h : RegAt B R g vb vp w) {k : Nat} (hk : OwnR R g vp k) : B ≤ k ∧ k < w.heap.size ∧ ∃ cs T fr, w.heap[k]? = some (.cells cs T fr) ∧ (T = 121 ∨ T = 116 ∨ T = 31) := by
 rcases hk with rfl | hk | ⟨q, hq, hk⟩
 ·exact ⟨h.hB, blk_lt h.reg, _, _, _, h.reg, Or.inl rfl⟩
 ·obtain ⟨h1, c, e⟩ := own_typed h.row hk
  exact ⟨h1, blk_lt e, _, _, _, e, Or.inr (Or.inl rfl)⟩
 ·obtain ⟨h1, c, e⟩ := own_typed (h.es q hq) hk
  exact ⟨h1, blk_lt e, _, _, _, e, Or.inr (Or.inr rfl)⟩
theorem Moved.keepT (h : RegAt B R g vb vp w) (m : Moved R g vp g1 vp1 w W) : KeepT w W := fun b cs T fr e n1 n2 n3 => by
 refine (m.kp.block b (blk_lt e) (fun c => ?_)).trans e
 obtain ⟨-, -, cs2, T2, fr2, e2, hT⟩ := h.ownT c
 rw [e] at e2
 cases e2
 rcases hT with rfl | rfl | rfl
 ·exact n1 rfl
 ·exact n2 rfl
 ·exact n3 rfl
theorem Moved.below (h : RegAt B R g vb vp w) (hB : B ≤ w.heap.size) (m : Moved R g vp g1 vp1 w W) : Below B w W :=
 ⟨m.kp.os, m.kp.tape, m.kp.output, m.kp.size, fun k hk => m.kp.block k (Nat.lt_of_lt_of_le hk hB) (fun c => by have := (h.ownT c).1; omega)⟩
def RegN (B R : Nat) (vb : Value) (a' : RegA) (g : RegS) (vp : Value) (w W : World) : Prop := ∃ g' vp', RegV B R vb a' g' vp' W ∧ Moved R g vp g' vp' w W
theorem RegV.step (h : RegV B R vb a g vp w) (hb : Below w.heap.size w W) : RegV B R vb a g vp W := ⟨h.ra.step hb, h.abs, h.lf⟩
theorem RegV.stay (h : RegV B R vb a g vp w) (hb : Below w.heap.size w W) : RegN B R vb a g vp w W := ⟨g, vp, h.step hb, Moved.of_below hb⟩
theorem RegN.pre {a' : RegA} (hb : Below w.heap.size w w1) (h : RegN B R vb a' g vp w1 W) : RegN B R vb a' g vp w W := by
 obtain ⟨g', vp', h1, h2⟩ := h
 exact ⟨g', vp', h1, h2.pre hb⟩
theorem RegN.step {a' : RegA} (h : RegN B R vb a' g vp w w1) (hb : Below w1.heap.size w1 W) : RegN B R vb a' g vp w W := by
 obtain ⟨g', vp', h1, h2⟩ := h
 exact ⟨g', vp', h1.step hb, h2.step hb⟩
theorem RegV.ps (h : RegV B R vb a g vp w) : a.ps = g.qs.map fun q => (q.nm, q.es) := by rw [← h.abs]; rfl
theorem RegV.len (h : RegV B R vb a g vp w) : g.qs.length = a.ps.length := by rw [h.ps, List.length_map]
theorem RegV.get (h : RegV B R vb a g vp w) {i : Nat} {p : ByteArray × List Ent} (hp : a.ps[i]? = some p) : ∃ q, g.qs[i]? = some q ∧ q.nm = p.1 ∧ q.es = p.2 ∧ q.life = Go.Proofs.YtmpilgkfbibhlaaGreatDoor.lf p ∧ q.hd = headOf a.pt p.1 p.2 := by
 rw [h.ps, List.getElem?_map] at hp
 cases hq : g.qs[i]? with
 | none => rw [hq] at hp; cases hp
 | some q =>
  rw [hq] at hp
  obtain rfl : (q.nm, q.es) = p := Option.some.inj hp
  obtain ⟨h1, h2⟩ := h.lf q (List.mem_of_getElem? hq)
  exact ⟨q, rfl, rfl, rfl, h1, by rw [h2, ← h.abs]; rfl⟩
theorem RegV.put (h : RegV B R vb a g vp w) {i : Nat} {q : PkV} (hq : g.qs[i]? = some q) : a.ps[i]? = some (q.nm, q.es) := by rw [h.ps, List.getElem?_map, hq]; rfl
theorem findIdx_congr2 {α : Type} {p q : α → Bool} : ∀ {l : List α}, (∀ x ∈ l, p x = q x) → l.findIdx p = l.findIdx q
 | [], _ => rfl
 | x :: l, h => by
  rw [List.findIdx_cons, List.findIdx_cons, h x (by simp), findIdx_congr2 fun y hy => h y (by simp [hy])]
theorem RegV.find (h : RegV B R vb a g vp w) (nm : ByteArray) : findK nm g.qs = findA nm a := by
 unfold findK findA
 rw [h.ps, List.findIdx_map]
 rfl
theorem RegV.whr (h : RegV B R vb a g vp w) (m : ByteArray) : whereK m g.qs = whereA m a := by
 unfold whereK whereA
 rw [h.ps, List.findIdx_map]
 refine findIdx_congr2 fun q hq => ?_
 show hasT q.life.ms m = hasT (lifeOf q.nm (evsOf q.es)).ms m
 rw [(h.lf q hq).1]
theorem OkB.us5 (h : OkB a) (k : Nat) : a.used.getD k 0 ≤ 5000 := by
 refine Nat.le_trans (h.us k) ?_
 obtain ⟨-, -, hbk⟩ := secR_ok h.sec
 rw [List.getD_eq_getElem?_getD]
 cases hk : a.bks[k]? with
 | none => exact Nat.zero_le _
 | some bk => exact (hbk bk (List.mem_of_getElem? hk)).2.1
theorem RegV.ok (h : RegV B R vb a g vp w) (ho : OkB a) : RegOk g := by
 obtain ⟨h1, h2, h3⟩ := h
 subst h2
 refine ⟨ho.sec, ho.us5, by have := ho.np; simpa [RegS.abs] using this, fun q hq => ?_⟩
 obtain ⟨q1, q2, q3, q4⟩ := ho.p (q.nm, q.es) (List.mem_map.2 ⟨q, hq, rfl⟩)
 exact ⟨q1, q2, q3, (nameB_size q4).2, (h3 q hq).1, (h3 q hq).2⟩
end
end Go.Proofs.YtmpilgkfbibhlaaGreatDoor
namespace Go.Proofs.YtmpilgkfbibhlaaGreatDoor
open Sx Go.RowKit Mr
theorem itoa2 (j : Nat) (hj : j < 32) : (Lib.itoa (j : Int)).length ≤ 2 := by
 have h : ∀ j : Nat, j < 32 → (Lib.itoa (j : Int)).length ≤ 2 := by decide +kernel
 exact h j hj
theorem modB_size {s : ByteArray} (h : modB s = true) : s.size ≤ 23 := by
 obtain ⟨j, hj, o, h1, h2⟩ := mod_mAt h
 have h3 := (nameB_size h2).2
 have h4 := itoa2 j hj
 rw [Lib.size_eq] at h3
 rw [Lib.size_eq, h1]
 simp at h3 ⊢
 omega
theorem okE_parts {k t a b : Int} {nm ot : ByteArray} (h : okE k t a b nm ot = true) : ((nm.toList == []) = true ∨ nameB nm = true ∨ modB nm = true) ∧ ((ot.toList == []) = true ∨ nameB ot = true ∨ modB ot = true) := by
 obtain ⟨he, -, -⟩ := okE_ev h
 have hk := he.k
 change 1 ≤ k ∧ k ≤ 9 at hk
 clear he
 have hk9 : k = 1 ∨ k = 2 ∨ k = 3 ∨ k = 4 ∨ k = 5 ∨ k = 6 ∨ k = 7 ∨ k = 8 ∨ k = 9 := by omega
 rcases hk9 with rfl | rfl | rfl | rfl | rfl | rfl | rfl | rfl | rfl
 all_goals
  unfold okE chkE chkB at h
  revert h
  generalize nameB nm = x1
  generalize modB nm = x2
  generalize nameB ot = x3
  generalize modB ot = x4
  generalize (nm.toList == []) = x5
  generalize (ot.toList == []) = x6
  cases x1 <;> cases x2 <;> cases x3 <;> cases x4 <;> cases x5 <;> cases x6 <;> simp
theorem part_size {s : ByteArray} (h : (s.toList == []) = true ∨ nameB s = true ∨ modB s = true) : s.size ≤ 23 := by
 rcases h with h | h | h
 ·have h1 : s.toList = [] := by simpa using h
  rw [Lib.toList_data] at h1
  rw [Lib.size_eq, h1]; simp
 ·have := nameB_size h; omega
 ·exact modB_size h
theorem okX_size {e : Evt} (h : okX e = true) : e.2.2.2.2.1.size ≤ 100 ∧ e.2.2.2.2.2.size ≤ 100 := by
 obtain ⟨k, t, a, b, nm, ot⟩ := e
 obtain ⟨h1, h2⟩ := okE_parts (show okE k t a b nm ot = true from h)
 have h1 := part_size h1
 have h2 := part_size h2
 exact ⟨by show nm.size ≤ 100; omega, by show ot.size ≤ 100; omega⟩
theorem evs_len (es : List Ent) : (evsOf es).length = es.length := by unfold evsOf; rw [List.length_map]
section
variable {B R n i u PB cp : Nat} {a : RegA} {g : RegS} {vb vp : Value} {w w' W : World} {p : ByteArray × List Ent} {q : PkV} {e : Evt}
theorem OkB.life (h : OkB a) (hp : p ∈ a.ps) : LifeB (lf p) ∧ (lf p).ms.length ≤ 100000 ∧ (lf p).os.length ≤ 100000 := by
 obtain ⟨h1, h2, h3, h4⟩ := h.p p hp
 refine (lifeOf_N p.1 (evsOf p.2) h3).lifeB ?_
 rw [life_n, evs_len]
 omega
theorem KeepB.mono {S S' : Nat → Prop} (h : KeepB S w W) (hS : ∀ k, S k → S' k) : KeepB S' w W := ⟨h.os, h.tape, h.output, h.size, fun k hk hn => h.block k hk fun c => hn (hS k c)⟩
theorem SRow.len_eq {v : Value} {l l' : List ByteArray} {W W' : World} (h : SRow v l W) (h' : SRow v l' W') : l.length = l'.length := by
 obtain ⟨a, c, e, -⟩ := h
 obtain ⟨a', c', e', -⟩ := h'
 rw [e] at e'
 injection e' with e1 e2 e3
def RegE (B R : Nat) (vb : Value) (a' : RegA) (g : RegS) (vp : Value) (w W : World) : Prop := ∃ g', RegV B R vb a' g' vp W ∧ Moved R g vp g' vp w W
theorem RegE.toN {a' : RegA} (h : RegE B R vb a' g vp w W) : RegN B R vb a' g vp w W := by
 obtain ⟨g', h1, h2⟩ := h
 exact ⟨g', vp, h1, h2⟩
theorem Entered.view (h : RegV B R vb a g vp w) (hvp : vp = .slice (some ⟨PB, 0, none⟩) g.qs.length cp) (hq : g.qs[i]? = some q) (hu : g.used.getD n 0 = u) (hE : Entered (fun vm' vo' => NewV w q.vm vm' ∧ NewV w q.vo vo') B R g vb vp PB i n u q (nextE g.pt g.bks q.hd e n u) e w w') : RegE B R vb (putA a n i e) g vp w w' := by
 obtain ⟨vm', vo', v', h1, h2, h3, h4, h5⟩ := hE
 obtain ⟨l1, l2⟩ := h.lf q (List.mem_of_getElem? hq)
 have hqm := List.mem_of_getElem? hq
 refine ⟨_, ⟨h1, ?_, fun x hx => ?_⟩, ⟨h2.mono fun k hk => ?_, fun k hk => ?_, fun k hk hN x hx => ?_⟩⟩
 ·rw [putA_at (h.put hq), ← h.abs]
  subst hu
  unfold RegS.abs putP
  dsimp only
  rw [List.map_set, ← l2]
 ·rcases mem_set hx with rfl | ⟨j, -, hj⟩
  ·dsimp only
   refine ⟨?_, (headOf_snoc _ _ _ _).symm⟩
   unfold evsOf
   rw [List.map_append, l1]
   exact (lifeOf_snoc _ _ _).symm
  ·exact h.lf x (List.mem_of_getElem? hj)
 ·rcases hk with rfl | rfl | hk
  ·exact Or.inl rfl
  ·exact Or.inr (Or.inl (by rw [hvp]; rfl))
  ·exact Or.inr (Or.inr ⟨q, hqm, hk⟩)
 ·rcases hk with rfl | hk | ⟨x, hx, hk⟩
  ·exact Or.inl (Or.inl rfl)
  ·exact Or.inl (Or.inr (Or.inl hk))
  ·rcases mem_set hx with rfl | ⟨j, -, hj⟩
   ·dsimp only at hk
    rcases h3 with h3 | ⟨k9, h4, h5⟩
    ·exact Or.inl (Or.inr (Or.inr ⟨q, hqm, by rw [← h3]; exact hk⟩))
    ·rw [h5] at hk
     obtain rfl := Option.some.inj hk
     exact Or.inr h4
   ·exact Or.inl (Or.inr (Or.inr ⟨x, List.mem_of_getElem? hj, hk⟩))
 ·rcases mem_set hx with rfl | ⟨j, -, hj⟩
  ·obtain ⟨hms, hos, h0⟩ := h1.ms _ hx
   dsimp only at hms hos h0 ⊢
   have key : ∀ (v v' : Value) (l l' : List ByteArray), NewV w v v' → (l ≠ [] → v.ownBlock ≠ some k) → (l' ≠ [] → v' = v → l ≠ []) → l' ≠ [] → v'.ownBlock ≠ some k := fun v v' l l' hv hl hs hne c => by
    rcases hv with hv | hv
    ·rw [hv] at c
     exact hl (hs hne hv) c
    ·have := hv k c
     omega
   obtain ⟨m0, o0, -⟩ := h.ra.ms q hqm
   exact ⟨key q.vm vm' q.life.ms _ h4 (hN q hqm).1 fun hne e c => hne (List.length_eq_zero_iff.1 ((SRow.len_eq (e ▸ hms) m0).trans (by rw [c]; rfl))), key q.vo vo' q.life.os _ h5 (hN q hqm).2 fun hne e c => hne (List.length_eq_zero_iff.1 ((SRow.len_eq (e ▸ hos) o0).trans (by rw [c]; rfl)))⟩
  ·exact hN x (List.mem_of_getElem? hj)
theorem enter_viewE (h : RegV B R vb a g vp w) (ho : OkB a) (hp : a.ps[i]? = some p) (hn : n < a.bks.length) (hu : a.used.getD n 0 < (a.bks.getD n (0, [])).2.length) (hok : okX e = true) (hcan : canP p.1 (lf p) e = true) :
  ∃ PB cp, vp = .slice (some ⟨PB, 0, none⟩) g.qs.length cp ∧ Calls Tryz.prog 65 #[.pointer (some ⟨R, 0, none⟩), .int .i64 (n : Int), .pointer (some ⟨PB, i * 20, none⟩), evX e] w fun en w' => en = .returned (.tuple #[]) ∧ RegE B R vb (putA a n i e) g vp w w' := by
 obtain ⟨q, hq, e1, e2, e3, e4⟩ := h.get hp
 have hpm := List.mem_of_getElem? hp
 obtain ⟨PB, cp, cur, hvp, -, hPB, -⟩ := h.ra.packs (by rintro c; rw [c] at hq; cases hq)
 refine ⟨PB, cp, hvp, ?_⟩
 obtain ⟨ab, cb, hvb, hB⟩ := h.ra.bk
 have hbks : g.bks = a.bks := by rw [← h.abs]; rfl
 have husd : g.used = a.used := by rw [← h.abs]; rfl
 have hpt : g.pt = a.pt := by rw [← h.abs]; rfl
 obtain ⟨bb, ob, cs, fr, rfl, -, -⟩ := hB (by rw [hbks]; rintro c; rw [c] at hn; simp at hn)
 obtain ⟨bk, hbk⟩ : ∃ bk, a.bks[n]? = some bk := ⟨a.bks[n], List.getElem?_eq_getElem hn⟩
 rw [List.getD_eq_getElem?_getD (l := a.bks), hbk, Option.getD_some] at hu
 obtain ⟨pd, hpd⟩ : ∃ pd, bk.2[a.used.getD n 0]? = some pd := ⟨bk.2[a.used.getD n 0]'hu, List.getElem?_eq_getElem hu⟩
 obtain ⟨q1, q2, q3, q4⟩ := ho.p p hpm
 obtain ⟨b1, b2⟩ := ho.life hpm
 have hra := h.ra
 rw [hvp] at hra
 refine (enter_gen (X := fun vm' vo' => NewV w q.vm vm' ∧ NewV w q.vo vo') hra hq hvb (by rw [hbks]; exact hbk) (by rw [husd]) hpd e hok (okX_size hok) (by rw [hpt, hbks]; exact ho.sec) (by rw [e2]; omega) fun W hW hL h0 => (add_anyN (by decide) hL (by rw [e3]; exact b1) (by rw [e3]; exact b2) (by rw [e1]; have := (nameB_size q4).2; omega) h0 e hok (by rw [e1, e3]; exact hcan)).mono fun en w' r => ⟨r.1, by obtain ⟨vm', vo', r2, r3⟩ := r.2; exact ⟨vm', vo', r2.l, r3, r2.m.mono hW, r2.o.mono hW⟩⟩).mono fun en w' r => ⟨r.1, ?_⟩
 have r2 := r.2
 rw [← hvp] at r2
 exact r2.view h hvp hq (by rw [husd])
theorem enter_view (h : RegV B R vb a g vp w) (ho : OkB a) (hp : a.ps[i]? = some p) (hn : n < a.bks.length) (hu : a.used.getD n 0 < (a.bks.getD n (0, [])).2.length) (hok : okX e = true) (hcan : canP p.1 (lf p) e = true) :
  ∃ PB cp, vp = .slice (some ⟨PB, 0, none⟩) g.qs.length cp ∧ Calls Tryz.prog 65 #[.pointer (some ⟨R, 0, none⟩), .int .i64 (n : Int), .pointer (some ⟨PB, i * 20, none⟩), evX e] w fun en w' => en = .returned (.tuple #[]) ∧ RegN B R vb (putA a n i e) g vp w w' := by
 obtain ⟨PB, cp, h1, h2⟩ := enter_viewE h ho hp hn hu hok hcan
 exact ⟨PB, cp, h1, h2.mono fun en w' r => ⟨r.1, r.2.toN⟩⟩
end
end Go.Proofs.YtmpilgkfbibhlaaGreatDoor
