/-
 enter of the laws' worlds.
-/
import Derived.Test.YtmpilgkfbibhlaaGreatDoorG0R
import Derived.Test.YtmpilgkfbibhlaaGreatDoorG33R
set_option linter.unusedSimpArgs false
set_option linter.unusedVariables false
namespace Go.Proofs.YtmpilgkfbibhlaaGreatDoor
open Sx Go.RowKit Mr
def KeepS (W W2 : World) : Prop := ∀ (b : Nat) (cs : Array Value) (fr : Nat × Nat), W.heap[b]? = some (Obj.cells cs 43 fr) → W2.heap[b]? = some (Obj.cells cs 43 fr)
set_option maxHeartbeats 8000000 in
set_option maxRecDepth 20000 in
theorem wenter_0 {w0 w : World} {Wd R : Nat} {vb vk : Value} {bks : List Bk} {S : WdS} (h : WdE w0 Wd R vb vk bks S w) (ho : OkA S.a) (hG : Glob0 w0) (b : Int) (nm : ByteArray) (k t ea eb : Int) (n1 ot : ByteArray) (hs : nm.size ≤ 1000000 ∧ n1.size ≤ 1000000 ∧ ot.size ≤ 1000000) :
  Calls Tryz.prog 54 #[.pointer (some ⟨Wd, 0, none⟩), .int .i64 b, .string nm, .agg #[.int .i64 k, .int .i64 t, .int .i64 ea, .int .i64 eb, .string n1, .string ot]] w fun en w' => en = .returned (.bool ((enterA S.a b nm (k, S.at_, ea, eb, n1, ot)).1 == 0)) ∧ WdE w0 Wd R vb vk bks { S with a := (enterA S.a b nm (k, S.at_, ea, eb, n1, ot)).2 } w' ∧ (KeepS w w') := by
 obtain ⟨g, vp, vpk, vmd, vbt, vmk, h⟩ := h
 obtain ⟨C9, hC9⟩ : ∃ C9, (enterA S.a b nm (k, S.at_, ea, eb, n1, ot)).1 = C9 := ⟨_, rfl⟩
 have CE := Lib.hid (fun W (hW : WdAt w0 Wd R vb vk bks S g vp vpk vmd vbt vmk W) => Enter_any hW.v ho (gstep hG hW.bel) b nm (k, S.at_, ea, eb, n1, ot) hs)
 rw [hC9] at CE ⊢
 have HC9 := Lib.hid hC9
 have H0 := Lib.hid (h.step (bAl (W := w) (o := (.cells #[.int .i64 k, .int .i64 t, .int .i64 ea, .int .i64 eb, .string n1, .string ot] 29))))
 have HX := Lib.hid (blk_new w (.cells #[.int .i64 k, .int .i64 t, .int .i64 ea, .int .i64 eb, .string n1, .string ot] 29))
 have HEL := Lib.hid h.bel.size
 have HK0 : Hid (KeepS w (w.alloc (.cells #[.int .i64 k, .int .i64 t, .int .i64 ea, .int .i64 eb, .string n1, .string ot] 29))) := fun b9 cs9 fr9 e9 => blk_step e9 bAl
 have HEN : Hid (Wd ≠ w.heap.size) := fun e => by have := blk_lt h.blk; omega
 have hwl := blk_lt h.blk
 clear h ho hG hs hC9
 go_enter Tryz.func54, Tryz.ntmps54
 go_upto_region 1 with fail
 generalize w.alloc (.cells #[.int .i64 k, .int .i64 t, .int .i64 ea, .int .i64 eb, .string n1, .string ot] 29) = W0 at *
 have c2 : W0.cell? ⟨Wd, 2, none⟩ = some (.int .i64 S.at_) := blk_cell (o := 2) H0.out.blk rfl
 have cl := blk_lt H0.out.blk
 have x1 := blk_cell (o := 1) HX.out rfl
 have f1 := blk_free (o := 1) HX.out
 have xl := blk_lt HX.out
 go_upto_region 2 with fail
 have HX1 := Lib.hid (blk_set (o := 1) (v := .int .i64 S.at_) HX.out)
 have H1 : Hid (WdAt w0 Wd R vb vk bks S g vp vpk vmd vbt vmk (W0.setCell ⟨w.heap.size, 1, none⟩ (.int .i64 S.at_))) := H0.out.setEv HX.out HEL.out HEN.out
 have HK1 : Hid (KeepS w (W0.setCell ⟨w.heap.size, 1, none⟩ (.int .i64 S.at_))) := fun b9 cs9 fr9 e9 => blk_set_other (HK0.out _ _ _ e9) (fun c => by have := blk_lt e9; have c2 : b9 = w.heap.size := c; omega)
 generalize W0.setCell ⟨w.heap.size, 1, none⟩ (.int .i64 S.at_) = W1 at *
 clear H0 HX c2 cl x1 f1 xl hwl
 refine region_all 10 10 23 [(7, 21)] [(none, []), (none, []), (none, []), (none, []), (none, []), (none, []), (none, []), (some 0, []), (none, [0]), (none, [])] [(14, (.pointer (some ⟨Wd, 0, none⟩))), (15, (.pointer (some ⟨Wd, 0, none⟩))), (16, (.pointer (some ⟨Wd, 0, none⟩))), (17, (.pointer (some ⟨R, 0, none⟩))), (18, (.int .i64 b)), (19, (.string nm)), (20, (.agg #[.int .i64 k, .int .i64 S.at_, .int .i64 ea, .int .i64 eb, .string n1, .string ot])), (22, (.bool (C9 == 0))), (8, (.bool (C9 == 0)))] (fun bsE vsE W => OneV (fun W => W.heap[w.heap.size]? = some (.cells #[.int .i64 k, .int .i64 S.at_, .int .i64 ea, .int .i64 eb, .string n1, .string ot] 29 (0, 0)) ∧ W.cell? ⟨Wd, 0, none⟩ = some (.pointer (some ⟨R, 0, none⟩)) ∧ Wd < W.heap.size ∧ (KeepS w W)) (fun W => WdAt w0 Wd R vb vk bks S g vp vpk vmd vbt vmk W) (fun W => WdE w0 Wd R vb vk bks { S with a := (enterA S.a b nm (k, S.at_, ea, eb, n1, ot)).2 } W) (.int .i64 C9) (bsE.getD 0 false) ((vsE.getD 0 undef)) W) (by kernel_rfl) (by kernel_rfl) rfl rfl (by kernel_rfl) (by rfl) ?h0 ?each ?done
 case h0 =>
  intro vsE hlv
  obtain ⟨v0, rfl⟩ := ll1 hlv
  exact ⟨⟨blk_step HX1.out (Below.refl _ _).drew, blk_cell (H1.out.step (Below.refl _ _).drew).blk rfl, blk_lt (H1.out.step (Below.refl _ _).drew).blk, (fun b9 cs9 fr9 e9 => blk_step (HK1.out _ _ _ e9) (Below.refl _ _).drew)⟩, (fun _ => H1.out.step (Below.refl _ _).drew), (fun e => by cases e), (fun e => by cases e)⟩
 case each =>
  simp only [AllE]
  refine ⟨⟨14, (.pointer (some ⟨Wd, 0, none⟩)), rfl, by kernel_rfl, ?_⟩, ⟨15, (.pointer (some ⟨Wd, 0, none⟩)), rfl, by kernel_rfl, ?_⟩, ⟨16, (.pointer (some ⟨Wd, 0, none⟩)), rfl, by kernel_rfl, ?_⟩, ⟨17, (.pointer (some ⟨R, 0, none⟩)), rfl, by kernel_rfl, ?_⟩, ⟨18, (.int .i64 b), rfl, by kernel_rfl, ?_⟩, ⟨19, (.string nm), rfl, by kernel_rfl, ?_⟩, ⟨20, (.agg #[.int .i64 k, .int .i64 S.at_, .int .i64 ea, .int .i64 eb, .string n1, .string ot]), rfl, by kernel_rfl, ?_⟩, Or.inl ⟨21, rfl, ?q1_7⟩, ⟨22, (.bool (C9 == 0)), rfl, by kernel_rfl, ?q1_8⟩, ⟨8, (.bool (C9 == 0)), rfl, by kernel_rfl, ?_⟩, trivial⟩
  case q1_7 =>
   intro bsE vsE W hlb hlv hnd hbk h
   obtain ⟨b0, rfl⟩ := ll1 hlb
   obtain ⟨v0, rfl⟩ := ll1 hlv
   obtain rfl : b0 = false := hbk
   replace h : OneV (fun W => W.heap[w.heap.size]? = some (.cells #[.int .i64 k, .int .i64 S.at_, .int .i64 ea, .int .i64 eb, .string n1, .string ot] 29 (0, 0)) ∧ W.cell? ⟨Wd, 0, none⟩ = some (.pointer (some ⟨R, 0, none⟩)) ∧ Wd < W.heap.size ∧ (KeepS w W)) (fun W => WdAt w0 Wd R vb vk bks S g vp vpk vmd vbt vmk W) (fun W => WdE w0 Wd R vb vk bks { S with a := (enterA S.a b nm (k, S.at_, ea, eb, n1, ot)).2 } W) (.int .i64 C9) false (v0) W := h
   clear hnd
   have HST := Lib.hid h
   have hs := h.a rfl; have hp := h.p
   intro K Q hK
   simp only [putE, updAll, Act.put, sl1, sl2, sl3, sl4] at hK ⊢
   go_wp2_with (go_at_call 72; refine (CE.out _ hs).mono ?_; rintro en w9 ⟨rfl, hN⟩)
   all_goals (have hz := hs.moved hN)
   all_goals (have hm : OneV (fun W => W.heap[w.heap.size]? = some (.cells #[.int .i64 k, .int .i64 S.at_, .int .i64 ea, .int .i64 eb, .string n1, .string ot] 29 (0, 0)) ∧ W.cell? ⟨Wd, 0, none⟩ = some (.pointer (some ⟨R, 0, none⟩)) ∧ Wd < W.heap.size ∧ (KeepS w W)) (fun W => WdAt w0 Wd R vb vk bks S g vp vpk vmd vbt vmk W) (fun W => WdE w0 Wd R vb vk bks { S with a := (enterA S.a b nm (k, S.at_, ea, eb, n1, ot)).2 } W) (.int .i64 C9) true ((.int .i64 C9)) w9 := ⟨⟨(by obtain ⟨g', vp', m1, m2⟩ := hN; exact m2.keepT hs.v.ra _ _ _ _ hp.1 (by decide) (by decide) (by decide)), (by obtain ⟨g9, a9, b9, c9, d9, e9, h9⟩ := hz; exact blk_cell h9.blk rfl), (by obtain ⟨g9, a9, b9, c9, d9, e9, h9⟩ := hz; exact blk_lt h9.blk), (fun b9 cs9 fr9 e9 => by obtain ⟨g', vp', m1, m2⟩ := hN; exact m2.keepT hs.v.ra _ _ _ _ (hp.2.2.2 _ _ _ e9) (by decide) (by decide) (by decide))⟩, (fun e => by cases e), (fun _ => hz), (fun _ => rfl)⟩)
   all_goals (first | exact hK _ _ hm | exact hm)
  case q1_8 =>
   intro bsE vsE W hlb hlv hnd h
   obtain ⟨b0, rfl⟩ := ll1 hlb
   obtain ⟨v0, rfl⟩ := ll1 hlv
   obtain rfl : b0 = true := hnd 0 (by simp)
   replace h : OneV (fun W => W.heap[w.heap.size]? = some (.cells #[.int .i64 k, .int .i64 S.at_, .int .i64 ea, .int .i64 eb, .string n1, .string ot] 29 (0, 0)) ∧ W.cell? ⟨Wd, 0, none⟩ = some (.pointer (some ⟨R, 0, none⟩)) ∧ Wd < W.heap.size ∧ (KeepS w W)) (fun W => WdAt w0 Wd R vb vk bks S g vp vpk vmd vbt vmk W) (fun W => WdE w0 Wd R vb vk bks { S with a := (enterA S.a b nm (k, S.at_, ea, eb, n1, ot)).2 } W) (.int .i64 C9) true (v0) W := h
   clear hnd
   have HST := Lib.hid h
   obtain rfl := h.r rfl
   intro K Q hK
   simp only [putE, updAll, Act.put, sl1, sl2, sl3, sl4] at hK ⊢
   go_wp2_with (fail)
   all_goals (first | exact hK _ h | exact h)
  all_goals
   intro bsE vsE W hlb hlv hnd h
   obtain ⟨b0, rfl⟩ := ll1 hlb
   obtain ⟨v0, rfl⟩ := ll1 hlv
   replace h : OneV (fun W => W.heap[w.heap.size]? = some (.cells #[.int .i64 k, .int .i64 S.at_, .int .i64 ea, .int .i64 eb, .string n1, .string ot] 29 (0, 0)) ∧ W.cell? ⟨Wd, 0, none⟩ = some (.pointer (some ⟨R, 0, none⟩)) ∧ Wd < W.heap.size ∧ (KeepS w W)) (fun W => WdAt w0 Wd R vb vk bks S g vp vpk vmd vbt vmk W) (fun W => WdE w0 Wd R vb vk bks { S with a := (enterA S.a b nm (k, S.at_, ea, eb, n1, ot)).2 } W) (.int .i64 C9) b0 (v0) W := h
   clear hnd
   have HST := Lib.hid h
   obtain ⟨hx, g0, gl, -⟩ := h.p; have x0 := blk_cell (o := 0) hx rfl; have x1 := blk_cell (o := 1) hx rfl; have x2 := blk_cell (o := 2) hx rfl; have x3 := blk_cell (o := 3) hx rfl; have x4 := blk_cell (o := 4) hx rfl; have x5 := blk_cell (o := 5) hx rfl; have xl := blk_lt hx; clear hx
   intro K Q hK
   simp only [putE, updAll, Act.put, sl1, sl2, sl3, sl4] at hK ⊢
   go_wp2_with (fail)
   all_goals (first | exact hK _ h | exact h)
 case done =>
  intro vsE W hlv h
  obtain ⟨v0, rfl⟩ := ll1 hlv
  replace h : OneV (fun W => W.heap[w.heap.size]? = some (.cells #[.int .i64 k, .int .i64 S.at_, .int .i64 ea, .int .i64 eb, .string n1, .string ot] 29 (0, 0)) ∧ W.cell? ⟨Wd, 0, none⟩ = some (.pointer (some ⟨R, 0, none⟩)) ∧ Wd < W.heap.size ∧ (KeepS w W)) (fun W => WdAt w0 Wd R vb vk bks S g vp vpk vmd vbt vmk W) (fun W => WdE w0 Wd R vb vk bks { S with a := (enterA S.a b nm (k, S.at_, ea, eb, n1, ot)).2 } W) (.int .i64 C9) true (v0) W := h
  have HST := Lib.hid h
  have HZ := Lib.hid (h.z rfl)
  have HZP := Lib.hid h.p.2.2.2
  clear h HST
  simp only [putE, updAll, Act.put, sl1, sl2, sl3, sl4]
  go_wp2_with fail
  exact bodyPost_ret (v := .bool (C9 == 0)) (by simp only [results, Tryz.results54]; go_simp) rfl ⟨rfl, HZ.out, HZP.out⟩
end Go.Proofs.YtmpilgkfbibhlaaGreatDoor
namespace Go.Proofs.YtmpilgkfbibhlaaGreatDoor
open Sx Go.RowKit Mr
theorem far_appN {W : World} {B E sz n : Nat} {u u' v : Value} {xs : List Value} (hv : W.ownsRow B E sz v n xs) (hf : Far u v) (hat : u'.ownBlock = u.ownBlock ∨ u'.ownBlock = some W.heap.size) : Far u' v := fun k e1 e2 => by
 rcases hat with hat | hat
 ·exact hf k (hat ▸ e1) e2
 ·rw [hat] at e1
  obtain rfl := Option.some.inj e1
  have h1 := (World.ownsRow.lt hv _ e2).2
  omega
theorem RegAt.intGrown {B R Bo m E : Nat} {g : RegS} {vb vp vo : Value} {W W5 : World} {xs : List Value} (h : RegAt B R g vb vp W) (ho : W.ownsRow Bo E 1 vo m xs) (hg : W.grownBy W5 vo.ownBlock) (hE : E = 2) : RegAt B R g vb vp W5 := by
 subst hE
 have hK : ∀ (b : Nat) (cs : Array Value) (T : TypeId) (fr : Nat × Nat), W.heap[b]? = some (.cells cs T fr) → T ≠ 2 → W5.heap[b]? = some (.cells cs T fr) := fun b cs T fr e1 e2 => blk_kept e1 hg ho e2
 obtain ⟨h1, h2, ⟨ab, cb, h3, h4⟩, h5, h6, h7, h8, h9⟩ := h
 refine ⟨hK _ _ _ _ h1 (by decide), h2, ⟨ab, cb, h3, fun hn => ?_⟩, own_kept h5 hg ho (by decide), fun q hq => ?_, fun q hq => own_kept (h7 q hq) hg ho (by decide), h8, h9⟩
 ·obtain ⟨b, off, cs, fr, e1, e2, e3⟩ := h4 hn
  refine ⟨b, off, cs, fr, e1, hK _ _ _ _ e2 (by decide), fun k bk hk => ?_⟩
  obtain ⟨q1, vq, q2, a9, c9, q3, q4⟩ := e3 k bk hk
  refine ⟨q1, vq, q2, a9, c9, q3, fun hn2 => ?_⟩
  obtain ⟨b2, off2, cs2, fr2, d1, d2, d3⟩ := q4 hn2
  exact ⟨b2, off2, cs2, fr2, d1, hK _ _ _ _ d2 (by decide), d3⟩
 ·obtain ⟨q1, q2, q3⟩ := h6 q hq
  have key : ∀ (b : Nat) (cs2 : Array Value) (fr2 : Nat × Nat), W.heap[b]? = some (Obj.cells cs2 9 fr2) → W5.heap[b]? = W.heap[b]? := fun b cs2 fr2 e => (hK _ _ _ _ e (by decide)).trans e.symm
  exact ⟨q1.keep key, q2.keep key, q3⟩
section
variable {w0 W W5 : World} {Wd R : Nat} {vb vk vp vpk vmd vbt vmk v' : Value} {bks : List Bk} {S : WdS} {g : RegS} {t : ByteArray}
theorem NoS.app (h : WdAt w0 Wd R vb vk bks S g vp vpk vmd vbt vmk W) {u : Value} (hn : ∀ k, u.ownBlock = some k → NoS k g) (hat : v'.ownBlock = u.ownBlock ∨ v'.ownBlock = some W.heap.size) : ∀ k, v'.ownBlock = some k → NoS k g := fun k hk => by
 rcases hat with hat | hat
 ·exact hn k (hat ▸ hk)
 ·rw [hat] at hk
  obtain rfl := Option.some.inj hk
  exact h.v.ra.fresh (Nat.le_refl _)
theorem WdAt.appPk (h : WdAt w0 Wd R vb vk bks S g vp vpk vmd vbt vmk W) (hg : W.grownBy W5 vpk.ownBlock) (ho : W5.ownsRow w0.heap.size 9 1 v' (S.packs.length + 1) (strC S.packs ++ [.string t])) (hat : v'.ownBlock = vpk.ownBlock ∨ v'.ownBlock = some W.heap.size) : WdAt w0 Wd R vb vk bks { S with packs := S.packs ++ [t] } g vp v' vmd vbt vmk (W5.setCell ⟨Wd, 3, none⟩ v') := by
 have hout := h.pk
 have hv2 := h.v
 have hb5 : W5.heap[Wd]? = some (.cells (wdC R vk S.at_ vpk vmd vbt vmk) 50 (0, 0)) := blk_kept h.blk hg hout (by decide)
 have hbel := h.bel.grown hg h.bel.size (fun k hk => (World.ownsRow.lt hout k hk).1)
 have hv5 : RegV w0.heap.size R vb S.a g vp W5 := ⟨hv2.ra.strGrown hout hg h.n1, hv2.abs, hv2.lf⟩
 have hbk : BkT vk bks W5 := h.bk.keep fun b cs T fr e hT => blk_kept e hg hout (by rcases hT with rfl | rfl <;> decide)
 exact ⟨hbel.setCell h.hW _, h.hW, hv5.setOther hb5 (Or.inl rfl), blk_set hb5, hbk.setO hb5 (by decide) (by decide), own_setT (by simpa [strC] using ho) hb5 (by decide), own_setT (h.md.kept hg (Far.ne (h.f1.symm))) hb5 (by decide), own_setT (h.bt.kept hg (Far.ne (h.f2.symm))) hb5 (by decide), own_setT (own_kept h.tm hg hout (by decide)) hb5 (by decide), far_appN h.md h.f1 hat, far_appN h.bt h.f2 hat, h.f3, NoS.app h h.n1 hat, h.n2, h.n3⟩
theorem WdAt.appMd (h : WdAt w0 Wd R vb vk bks S g vp vpk vmd vbt vmk W) (hg : W.grownBy W5 vmd.ownBlock) (ho : W5.ownsRow w0.heap.size 9 1 v' (S.mods.length + 1) (strC S.mods ++ [.string t])) (hat : v'.ownBlock = vmd.ownBlock ∨ v'.ownBlock = some W.heap.size) : WdAt w0 Wd R vb vk bks { S with mods := S.mods ++ [t] } g vp vpk v' vbt vmk (W5.setCell ⟨Wd, 4, none⟩ v') := by
 have hout := h.md
 have hv2 := h.v
 have hb5 : W5.heap[Wd]? = some (.cells (wdC R vk S.at_ vpk vmd vbt vmk) 50 (0, 0)) := blk_kept h.blk hg hout (by decide)
 have hbel := h.bel.grown hg h.bel.size (fun k hk => (World.ownsRow.lt hout k hk).1)
 have hv5 : RegV w0.heap.size R vb S.a g vp W5 := ⟨hv2.ra.strGrown hout hg h.n2, hv2.abs, hv2.lf⟩
 have hbk : BkT vk bks W5 := h.bk.keep fun b cs T fr e hT => blk_kept e hg hout (by rcases hT with rfl | rfl <;> decide)
 exact ⟨hbel.setCell h.hW _, h.hW, hv5.setOther hb5 (Or.inl rfl), blk_set hb5, hbk.setO hb5 (by decide) (by decide), own_setT (h.pk.kept hg (Far.ne (h.f1))) hb5 (by decide), own_setT (by simpa [strC] using ho) hb5 (by decide), own_setT (h.bt.kept hg (Far.ne (h.f3.symm))) hb5 (by decide), own_setT (own_kept h.tm hg hout (by decide)) hb5 (by decide), (far_appN h.pk h.f1.symm hat).symm, h.f2, far_appN h.bt h.f3 hat, h.n1, NoS.app h h.n2 hat, h.n3⟩
theorem WdAt.appBt (h : WdAt w0 Wd R vb vk bks S g vp vpk vmd vbt vmk W) (hg : W.grownBy W5 vbt.ownBlock) (ho : W5.ownsRow w0.heap.size 9 1 v' (S.bts.length + 1) (strC S.bts ++ [.string t])) (hat : v'.ownBlock = vbt.ownBlock ∨ v'.ownBlock = some W.heap.size) : WdAt w0 Wd R vb vk bks { S with bts := S.bts ++ [t] } g vp vpk vmd v' vmk (W5.setCell ⟨Wd, 5, none⟩ v') := by
 have hout := h.bt
 have hv2 := h.v
 have hb5 : W5.heap[Wd]? = some (.cells (wdC R vk S.at_ vpk vmd vbt vmk) 50 (0, 0)) := blk_kept h.blk hg hout (by decide)
 have hbel := h.bel.grown hg h.bel.size (fun k hk => (World.ownsRow.lt hout k hk).1)
 have hv5 : RegV w0.heap.size R vb S.a g vp W5 := ⟨hv2.ra.strGrown hout hg h.n3, hv2.abs, hv2.lf⟩
 have hbk : BkT vk bks W5 := h.bk.keep fun b cs T fr e hT => blk_kept e hg hout (by rcases hT with rfl | rfl <;> decide)
 exact ⟨hbel.setCell h.hW _, h.hW, hv5.setOther hb5 (Or.inl rfl), blk_set hb5, hbk.setO hb5 (by decide) (by decide), own_setT (h.pk.kept hg (Far.ne (h.f2))) hb5 (by decide), own_setT (h.md.kept hg (Far.ne (h.f3))) hb5 (by decide), own_setT (by simpa [strC] using ho) hb5 (by decide), own_setT (own_kept h.tm hg hout (by decide)) hb5 (by decide), h.f1, (far_appN h.pk h.f2.symm hat).symm, (far_appN h.md h.f3.symm hat).symm, h.n1, h.n2, NoS.app h h.n3 hat⟩
theorem WdAt.appTm {i : Int} (h : WdAt w0 Wd R vb vk bks S g vp vpk vmd vbt vmk W) (hg : W.grownBy W5 vmk.ownBlock) (ho : W5.ownsRow w0.heap.size 2 1 v' (S.mds.length + 1) (S.mds.map (Value.int .i64) ++ [.int .i64 i])) : WdAt w0 Wd R vb vk bks { S with mds := S.mds ++ [i] } g vp vpk vmd vbt v' (W5.setCell ⟨Wd, 6, none⟩ v') := by
 have hout := h.tm
 have hv2 := h.v
 have hb5 : W5.heap[Wd]? = some (.cells (wdC R vk S.at_ vpk vmd vbt vmk) 50 (0, 0)) := blk_kept h.blk hg hout (by decide)
 have hbel := h.bel.grown hg h.bel.size (fun k hk => (World.ownsRow.lt hout k hk).1)
 have hv5 : RegV w0.heap.size R vb S.a g vp W5 := ⟨hv2.ra.intGrown hout hg rfl, hv2.abs, hv2.lf⟩
 have hbk : BkT vk bks W5 := h.bk.keep fun b cs T fr e hT => blk_kept e hg hout (by rcases hT with rfl | rfl <;> decide)
 exact ⟨hbel.setCell h.hW _, h.hW, hv5.setOther hb5 (Or.inl rfl), blk_set hb5, hbk.setO hb5 (by decide) (by decide), own_setT (own_kept h.pk hg hout (by decide)) hb5 (by decide), own_setT (own_kept h.md hg hout (by decide)) hb5 (by decide), own_setT (own_kept h.bt hg hout (by decide)) hb5 (by decide), own_setT (by simpa [strC] using ho) hb5 (by decide), h.f1, h.f2, h.f3, h.n1, h.n2, h.n3⟩
end
end Go.Proofs.YtmpilgkfbibhlaaGreatDoor
namespace Go.Proofs.YtmpilgkfbibhlaaGreatDoor
open Sx Go.RowKit Mr
structure PuS (P P0 P2 : World → Prop) (Bs E : Nat) (u yv ve : Value) (n : Nat) (xs : List Value) (b0 bY b1 b2 b3 : Bool) (v0 vY v1 v2 : Value) (W : World) : Prop where
 p : P W
 a : b2 = false → P0 W
 m : b2 = true → b3 = false → ∃ Wb, P0 Wb ∧ Wb.grownBy W ve.ownBlock ∧ (v2.ownBlock = ve.ownBlock ∨ v2.ownBlock = some Wb.heap.size) ∧ W.ownsRow Bs E 1 v2 (n + 1) (xs ++ [u])
 z : b3 = true → P2 W
 r0 : b0 = true → v0 = ve
 ry : bY = true → vY = yv
 r1 : b1 = true → b2 = false → ∃ g, v1 = .slice (some ⟨g, 0, none⟩) 1 1 ∧ W.heap[g]? = some (.cells #[u] E (0, 0))
 n0 : b0 = false → b2 = false
 nY : bY = false → b1 = false
 n1 : b1 = false → b2 = false
 n2 : b2 = false → b3 = false
 hb : Bs ≤ W.heap.size
section
variable {P P0 P2 : World → Prop} {Bs E n : Nat} {u yv ve : Value} {xs : List Value} {b0 bY b1 b2 b3 : Bool} {v0 vY v1 v2 : Value} {W w2 : World}
theorem PuS.mk0 (h : PuS P P0 P2 Bs E u yv ve n xs false bY b1 false false v0 vY v1 v2 W) : PuS P P0 P2 Bs E u yv ve n xs true bY b1 false false ve vY v1 v2 W :=
 ⟨h.p, h.a, (fun e => by cases e), (fun e => by cases e), fun _ => rfl, h.ry, h.r1, (fun e => by cases e), h.nY, h.n1, h.n2, h.hb⟩
theorem PuS.mkY (hP : ∀ W w2, P W → Below W.heap.size W w2 → P w2) (hP0 : ∀ W w2, P0 W → Below W.heap.size W w2 → P0 w2) (h : PuS P P0 P2 Bs E u yv ve n xs b0 false false false false v0 vY v1 v2 W) (hb : Below W.heap.size W w2) : PuS P P0 P2 Bs E u yv ve n xs b0 true false false false v0 yv v1 v2 w2 :=
 ⟨hP _ _ h.p hb, fun e => hP0 _ _ (h.a e) hb, (fun e => by cases e), (fun e => by cases e), h.r0, (fun _ => rfl), (fun e => by cases e), h.n0, (fun e => by cases e), h.n1, h.n2, Nat.le_trans h.hb hb.size⟩
theorem PuS.mk1 (hP : ∀ W w2, P W → Below W.heap.size W w2 → P w2) (hP0 : ∀ W w2, P0 W → Below W.heap.size W w2 → P0 w2) (h : PuS P P0 P2 Bs E u yv ve n xs b0 true false false false v0 vY v1 v2 W) : PuS P P0 P2 Bs E u yv ve n xs b0 true true false false v0 vY (.slice (some ⟨W.heap.size, 0, none⟩) 1 1) v2 (W.alloc (.cells #[u] E)) :=
 ⟨hP _ _ h.p bAl, fun e => hP0 _ _ (h.a e) bAl, (fun e => by cases e), (fun e => by cases e), h.r0, h.ry, (fun _ _ => ⟨_, rfl, blk_new W _⟩), h.n0, (fun e => by cases e), (fun _ => rfl), h.n2, Nat.le_trans h.hb bAl.size⟩
theorem PuS.fin {p : Addr} (h : PuS P P0 P2 Bs E u yv ve n xs true true true true false v0 vY v1 v2 W) (hp : P (W.setCell p v2)) (hz : P2 (W.setCell p v2)) (hb : W.heap.size ≤ (W.setCell p v2).heap.size) : PuS P P0 P2 Bs E u yv ve n xs true true true true true v0 vY v1 v2 (W.setCell p v2) :=
 ⟨hp, (fun e => by cases e), (fun _ e => by cases e), (fun _ => hz), h.r0, h.ry, (fun _ e => by cases e), (fun e => by cases e), (fun e => by cases e), (fun e => by cases e), (fun e => by cases e), Nat.le_trans h.hb hb⟩
theorem PuS.appS {t : ByteArray} {o : Oper} {a : Act} {K : Act → World → Prop} {Q : Exit → Act → World → Prop} (hown : ∀ W, P0 W → W.ownsRow Bs 9 1 ve n xs) (hg9 : ∀ W w2 : World, P0 W → P W → W.grownBy w2 ve.ownBlock → P w2) (hn : n ≤ 100000) (h : PuS P P0 P2 Bs 9 (.string t) yv ve n xs true bY true false false v0 vY v1 v2 W)
  (s p : Operand) (ho : o.op = .call { callee := .builtin .append, args := #[s, p], argTypes := #[47, 47] }) (hs : a.eval s = v0) (hp : a.eval p = v1)
  (hK : ∀ v' W', PuS P P0 P2 Bs 9 (.string t) yv ve n xs true bY true true false v0 vY v1 v' W' → K (a.put o.dst v') W') : o.wp Tryz.prog a W K Q := by
 obtain ⟨i0, hi, hz0, hz1, hz2⟩ := info_parts infoS'
 obtain rfl := h.r0 rfl
 obtain ⟨g, rfl, hg⟩ := h.r1 rfl rfl
 refine wp_app (P := Tryz.prog) W s p 47 ho Bs 9 i0 (.string ⟨#[]⟩) 1 16 Tryz.underlying47 hi hz0 hz1 hz2 rfl (by decide) v0 n xs hs (hown W (h.a rfl)) (some ⟨g, 0, none⟩) 1 1 [(.string t)] hp rfl (fun _ => ⟨g, 0, rfl, fun j u hu => blk_cell hg (by rw [Nat.zero_add]; simpa using hu)⟩) (str1 t) (by unfold maxLen; omega) (by omega) h.hb fun v' W' q1 q2 q3 => hK v' W' ?_
 exact ⟨hg9 _ _ (h.a rfl) h.p q2, (fun e => by cases e), (fun _ _ => ⟨W, h.a rfl, q2, q3, q1⟩), (fun e => by cases e), (fun _ => rfl), h.ry, (fun _ e => by cases e), (fun e => by cases e), h.nY, (fun e => by cases e), (fun e => by cases e), Nat.le_trans h.hb q2.size⟩
theorem infoI8 : (Tryz.prog.info? 2).map (fun i => (i.zero, i.size, i.bytes)) = some (some (.int .i64 0), 1, 8) := by kernel_rfl
theorem int1 (i : Int) : ∀ u ∈ [Value.int .i64 i], u.oneCell' = true := by
 intro u hu
 simp at hu
 subst hu
 rfl
theorem PuS.appI {i : Int} {o : Oper} {a : Act} {K : Act → World → Prop} {Q : Exit → Act → World → Prop} (hown : ∀ W, P0 W → W.ownsRow Bs 2 1 ve n xs) (hg9 : ∀ W w2 : World, P0 W → P W → W.grownBy w2 ve.ownBlock → P w2) (hn : n ≤ 100000) (h : PuS P P0 P2 Bs 2 (.int .i64 i) yv ve n xs true bY true false false v0 vY v1 v2 W)
  (s p : Operand) (ho : o.op = .call { callee := .builtin .append, args := #[s, p], argTypes := #[48, 48] }) (hs : a.eval s = v0) (hp : a.eval p = v1)
  (hK : ∀ v' W', PuS P P0 P2 Bs 2 (.int .i64 i) yv ve n xs true bY true true false v0 vY v1 v' W' → K (a.put o.dst v') W') : o.wp Tryz.prog a W K Q := by
 obtain ⟨i0, hi, hz0, hz1, hz2⟩ := info_parts infoI8
 obtain rfl := h.r0 rfl
 obtain ⟨g, rfl, hg⟩ := h.r1 rfl rfl
 refine wp_app (P := Tryz.prog) W s p 48 ho Bs 2 i0 (.int .i64 0) 1 8 Tryz.underlying48 hi hz0 hz1 hz2 rfl (by decide) v0 n xs hs (hown W (h.a rfl)) (some ⟨g, 0, none⟩) 1 1 [(.int .i64 i)] hp rfl (fun _ => ⟨g, 0, rfl, fun j u hu => blk_cell hg (by rw [Nat.zero_add]; simpa using hu)⟩) (int1 i) (by unfold maxLen; omega) (by omega) h.hb fun v' W' q1 q2 q3 => hK v' W' ?_
 exact ⟨hg9 _ _ (h.a rfl) h.p q2, (fun e => by cases e), (fun _ _ => ⟨W, h.a rfl, q2, q3, q1⟩), (fun e => by cases e), (fun _ => rfl), h.ry, (fun _ e => by cases e), (fun e => by cases e), h.nY, (fun e => by cases e), (fun e => by cases e), Nat.le_trans h.hb q2.size⟩
end
end Go.Proofs.YtmpilgkfbibhlaaGreatDoor
