/-
 The reference's first head, and the entry that is right.
-/
import Derived.Test.YtmpilgkfbibhlaaGreatDoorG18Verifies
import Derived.Test.YtmpilgkfbibhlaaGreatDoorG20Verifies
import Derived.Test.YtmpilgkfbibhlaaGreatDoorG22Verifies
import Derived.Test.YtmpilgkfbibhlaaGreatDoorG19Verifies
import Derived.Test.YtmpilgkfbibhlaaGreatDoorG11Verifies
import Derived.Lib.ParseIntB
import Derived.Lib.IndexLaws
import Derived.Lib.IndexMore
import Derived.Lib.ItoaLen
import Derived.Test.YtmpilgkfbibhlaaGreatDoorG2Verifies
import Derived.Test.YtmpilgkfbibhlaaGreatDoorG3Verifies
import Derived.Lib.AtoiErrMem
import Derived.Test.YtmpilgkfbibhlaaGreatDoorG15Verifies
set_option linter.unusedSimpArgs false
set_option linter.unusedVariables false
namespace Go.Proofs.YtmpilgkfbibhlaaGreatDoor
open Go.RowKit Mr
theorem tag_ok {x pad : Nat} {M : List Nat} (h1 : 1 ≤ x) (h2 : x < P31) (h3 : pad < P31) (h4 : M.length ≤ 1000) : tagR 2 x pad M = ((headD x M + pad) % P31, 0) := by
 have hf : fi 2 = some 2 := rfl
 have hp : prim 2 = P31 := rfl
 have hd : digR 2 x M = (headD x M, 0) := by
  unfold digR
  rw [hf]
  dsimp only
  rw [if_neg (by omega), hp, if_neg (by omega)]
  rfl
 unfold tagR
 rw [hf, hd]
 dsimp only
 rw [if_neg (by simp), hp, if_neg (by omega)]
theorem own_msg {B : Nat} {v : Value} {M : List Nat} {W : World} (h : W.ownsRow B 5 1 v M.length (byC M)) (hn : 0 < M.length) : ∃ g c, v = .slice (some ⟨g, 0, none⟩) M.length c ∧ B ≤ g ∧ g < W.heap.size ∧ BytV (some ⟨g, 0, none⟩) M W := by
 obtain ⟨a, c, rfl, hB⟩ := own_byt (by rw [byC_len]; exact h)
 obtain ⟨h1, h2⟩ := h
 rcases h2 with ⟨h2, h3⟩ | ⟨g, cap, cur, q1, q2, q3, q4⟩
 ·omega
 ·injection q1 with e1 e2 e3
  subst e1
  exact ⟨g, c, rfl, q2, blk_lt q3, hB⟩
theorem beginE_lt (pt : Nat) (name : ByteArray) : beginE pt name < P31 := horner_lt (by decide) _ _
set_option maxHeartbeats 4000000 in
set_option maxRecDepth 20000 in
theorem RBegin_any (pt : Nat) (name : ByteArray) (w : World) (hpt : pt < P31) (hnm : name.size ≤ 1000) : Calls Tryz.prog 113 #[.int .u64 (pt : Int), .string name] w fun e w' => e = .returned (.int .u64 (beginE pt name : Int)) ∧ Below w.heap.size w w' := by
 have hconv := run_bytes_of_string (P := Tryz.prog) w 9 88 5 name Tryz.underlying9 Tryz.underlying88 Tryz.underlying5
 have HV := Lib.hid (fun cap fr => name_bytV (fr := fr) name cap w)
 have CS := Lib.hid (fun W a cap (hA : BytV a (name.data.toList.map UInt8.toNat) W) => sum_any 2 (by decide) pt cap a (name.data.toList.map UInt8.toNat) W hpt (byt_of_name name) (by rw [name_len]; omega) hA)
 have hBE : dig (prim 2) (2 + 1) pt (name.data.toList.map UInt8.toNat) = beginE pt name := rfl
 rw [hBE] at CS
 simp only [name_len] at CS
 clear hBE
 go_enter Tryz.func113, Tryz.ntmps113
 go_wp2_with (go_at_call 116; refine (CS.out _ _ _ (al_byt (HV.out _ _))).mono ?_; rintro e w5 ⟨rfl, hb5⟩; have HB5 := Lib.hid (al_below hb5); clear hb5)
 exact bodyPost_ret (v := .int .u64 (beginE pt name : Int)) (by simp only [results, Tryz.results113]; go_simp) rfl ⟨rfl, HB5.out⟩
set_option maxHeartbeats 8000000 in
set_option maxRecDepth 20000 in
theorem RRight_0 {ae : Option Addr} {es : List Ent} {bks : List Bk} {w : World} (pt bb ob c cb n m pd : Nat) (name : ByteArray) (bk : Bk) (e : Evt) (hE : EntAt ae es w) (hB : BksAt (some ⟨bb, ob, none⟩) bks w) (hok : okX e = true) (hsz : e.2.2.2.2.1.size ≤ 100 ∧ e.2.2.2.2.2.size ≤ 100)
  (hk : bks[n]? = some bk) (hpd : bk.2[m]? = some pd) (hpt : pt < P31) (hbp : 1 ≤ bk.1 ∧ bk.1 < P31) (hp31 : pd < P31) (hl : es.length ≤ 1000000 ∧ bks.length ≤ 1000000 ∧ bk.2.length ≤ 1000000) (hnm : name.size ≤ 1000) (hhd : ∀ y ∈ es, y.2.2.2.1 < 18446744073709551616) (hn : es = []) :
  Calls Tryz.prog 52 #[.int .u64 (pt : Int), .slice (some ⟨bb, ob, none⟩) bks.length cb, .string name, .slice ae es.length c, evX e, .int .i64 (n : Int), .int .i64 (m : Int)] w fun en w' => en = .returned (entX (nextE pt bks (headOf pt name es) e n m)) ∧ Below w.heap.size w w' := by
 have CB := Lib.hid (fun W => RBegin_any pt name W hpt hnm)
 have hH : headOf pt name es < 18446744073709551616 := by
  unfold headOf
  cases hg : es.getLast? with
  | none => have := beginE_lt pt name; unfold P31 at this; dsimp only; omega
  | some y => exact hhd y (List.mem_of_getLast? hg)
 have CM := Lib.hid (fun W => Message_any (headOf pt name es) n e W hH hok hsz)
 have HML := Lib.hid (bytX_len e hok hsz)
 have HBYT := Lib.hid (bytX_byt e hok hsz)
 obtain ⟨bb2, ob2, ebb, hbb, hbc⟩ := hB (by rintro rfl; cases hk)
 cases ebb
 obtain ⟨s0, vp, s1, hpv⟩ := hbc n bk hk
 obtain ⟨ap, cp, rfl, hpc⟩ := hpv
 obtain ⟨bp, op, rfl, hbp2, hpd2⟩ := hpc (by intro e; rw [e] at hpd; cases hpd)
 have s2 := hpd2 m pd hpd
 have HSB := Lib.hid (And.intro s0 (And.intro s1 s2))
 have hN : nextE pt bks (headOf pt name es) e n m = (e, (n : Int), (m : Int), headD pt (msgE (headOf pt name es) e n), (headD bk.1 (msgE (headOf pt name es) e n) + pd) % P31) := by
  unfold nextE
  rw [List.getD_eq_getElem?_getD, hk]
  simp only [Option.getD_some]
  rw [List.getD_eq_getElem?_getD, hpd]
  rfl
 have HN := Lib.hid hN
 have k0 : (0 : Int) ≤ n := by omega
 have k1 : (n : Int) < bks.length := by have := (List.getElem?_eq_some_iff.1 hk).1; omega
 have k1n : n < bks.length := by have := (List.getElem?_eq_some_iff.1 hk).1; omega
 have k2 : (0 : Int) ≤ m := by omega
 have k3 : (m : Int) < bk.2.length := by have := (List.getElem?_eq_some_iff.1 hpd).1; omega
 have k3n : m < bk.2.length := by have := (List.getElem?_eq_some_iff.1 hpd).1; omega
 have HBP := Lib.hid (And.intro hbp (And.intro hp31 hpt))
 obtain ⟨k, t, a1, b1, nm, ot⟩ := e
 have HX := Lib.hid (blk_step (blk_new w (.cells #[.int .i64 k, .int .i64 t, .int .i64 a1, .int .i64 b1, .string nm, .string ot] 29)) (bAl (o := (.cells #[.int .i64 0, .int .i64 0, .int .i64 0, .int .i64 0, .string ⟨#[]⟩, .string ⟨#[]⟩, .int .i64 0, .int .i64 0, .int .u64 0, .int .u64 0] 31))))
 have HZ : Hid (((w.alloc (.cells #[.int .i64 k, .int .i64 t, .int .i64 a1, .int .i64 b1, .string nm, .string ot] 29)).alloc (.cells #[.int .i64 0, .int .i64 0, .int .i64 0, .int .i64 0, .string ⟨#[]⟩, .string ⟨#[]⟩, .int .i64 0, .int .i64 0, .int .u64 0, .int .u64 0] 31)).heap[w.heap.size + 1]? = some (.cells #[.int .i64 0, .int .i64 0, .int .i64 0, .int .i64 0, .string ⟨#[]⟩, .string ⟨#[]⟩, .int .i64 0, .int .i64 0, .int .u64 0, .int .u64 0] 31 (0, 0))) := by
  have h := blk_new (w.alloc (.cells #[.int .i64 k, .int .i64 t, .int .i64 a1, .int .i64 b1, .string nm, .string ot] 29)) (.cells #[.int .i64 0, .int .i64 0, .int .i64 0, .int .i64 0, .string ⟨#[]⟩, .string ⟨#[]⟩, .int .i64 0, .int .i64 0, .int .u64 0, .int .u64 0] 31)
  rw [show (w.alloc (.cells #[.int .i64 k, .int .i64 t, .int .i64 a1, .int .i64 b1, .string nm, .string ot] 29)).heap.size = w.heap.size + 1 by simp] at h
  exact h
 have HB0 : Hid (Below w.heap.size w ((w.alloc (.cells #[.int .i64 k, .int .i64 t, .int .i64 a1, .int .i64 b1, .string nm, .string ot] 29)).alloc (.cells #[.int .i64 0, .int .i64 0, .int .i64 0, .int .i64 0, .string ⟨#[]⟩, .string ⟨#[]⟩, .int .i64 0, .int .i64 0, .int .u64 0, .int .u64 0] 31))) := bAlloc bAl _
 subst hn
 have HHD : Hid (headOf pt name [] = beginE pt name) := rfl
 change Calls Tryz.prog 52 #[.int .u64 (pt : Int), .slice (some ⟨bb, ob, none⟩) bks.length cb, .string name, .slice ae ([] : List Ent).length c, .agg #[.int .i64 k, .int .i64 t, .int .i64 a1, .int .i64 b1, .string nm, .string ot], .int .i64 (n : Int), .int .i64 (m : Int)] w _
 replace CM : Hid (∀ W, Calls Tryz.prog 114 #[.int .u64 (headOf pt name [] : Int), .agg #[.int .i64 k, .int .i64 t, .int .i64 a1, .int .i64 b1, .string nm, .string ot], .int .i64 (n : Int)] W fun en w' => ∃ v, en = .returned v ∧ w'.ownsRow W.heap.size 5 1 v (msgE (headOf pt name []) (k, t, a1, b1, nm, ot) n).length (byC (msgE (headOf pt name []) (k, t, a1, b1, nm, ot) n)) ∧ Below W.heap.size W w') := CM
 have HMN : Hid (Byt (msgE (headOf pt name []) (k, t, a1, b1, nm, ot) n) ∧ (msgE (headOf pt name []) (k, t, a1, b1, nm, ot) n).length ≤ 1000 ∧ 0 < (msgE (headOf pt name []) (k, t, a1, b1, nm, ot) n).length) := ⟨nx_byt HBYT.out, by unfold msgE; have := HML.out; rw [List.length_append, List.length_append, bigL_len]; simp; omega, by unfold msgE; rw [List.length_append, List.length_append, bigL_len]; omega⟩
 clear hN hbp hp31 hpt hhd hH hE hB hok hsz hk hpd s0 s1 s2 hbc hpc hpd2 hbb hbp2 hl hnm HBYT HML
 generalize hM : msgE (headOf pt name []) (k, t, a1, b1, nm, ot) n = M at *
 clear hM
 go_enter Tryz.func52, Tryz.ntmps52
 rw [show beginE pt name = headOf pt name [] from rfl] at CB
 generalize headOf pt name [] = H at *
 go_upto_region 4 with (go_at_call 113; refine (CB.out _).mono ?_; rintro e w1 ⟨rfl, hb1⟩; have HW1 := Lib.hid (bStep HB0.out hb1); have HXS := Lib.hid hb1; clear hb1)
 have HX1 := Lib.hid (blk_step HX.out HXS.out)
 have HZ1 := Lib.hid (blk_step HZ.out HXS.out)
 have HXG := Lib.hid (blk_lt HZ1.out)
 have u0 := blk_cell (o := 0) HX1.out rfl
 have u1 := blk_cell (o := 1) HX1.out rfl
 have u2 := blk_cell (o := 2) HX1.out rfl
 have u3 := blk_cell (o := 3) HX1.out rfl
 have u4 := blk_cell (o := 4) HX1.out rfl
 have u5 := blk_cell (o := 5) HX1.out rfl
 have ul := blk_lt HX1.out
 clear HX HZ HXS
 go_upto_region 5 with (go_at_call 114; refine (CM.out _).mono ?_; rintro e w2 ⟨v2, rfl, ho2, hb2⟩; obtain ⟨g7, c7, rfl, hg7, hg8, hB7⟩ := own_msg ho2 HMN.out.2.2; have HGG := Lib.hid (And.intro hg7 hg8); have HBV := Lib.hid hB7; have HXS := Lib.hid hb2; clear ho2 hg7 hg8 hB7 hb2)
 have HX2 := Lib.hid (blk_step HX1.out HXS.out)
 have HZ2 := Lib.hid (blk_step HZ1.out HXS.out)
 have HW2 := Lib.hid (bStep HW1.out HXS.out)
 clear u0 u1 u2 u3 u4 u5 ul HX1 HZ1
 have s0 : ∀ s : WStep w2, s.1.cell? ⟨bb, ob + n * 2, none⟩ = some (.int .u64 (bk.1 : Int)) := fun s => cell_step HSB.out.1 (bStep HW2.out s.2)
 have s1 : ∀ s : WStep w2, s.1.cell? ⟨bb, ob + n * 2 + 1, none⟩ = some (.slice (some ⟨bp, op, none⟩) bk.2.length cp) := fun s => cell_step HSB.out.2.1 (bStep HW2.out s.2)
 have s2 : ∀ s : WStep w2, s.1.cell? ⟨bp, op + m, none⟩ = some (.int .u64 (pd : Int)) := fun s => cell_step HSB.out.2.2 (bStep HW2.out s.2)
 have CT := Lib.hid (fun s : WStep w2 => step_call s (RTag_any 2 bk.1 pd c7 (some ⟨g7, 0, none⟩) M s.1 (by have := HBP.out.1.2; unfold P31 at this; omega) (by have := HBP.out.2.1; unfold P31 at this; omega) HMN.out.1 (by have := HMN.out.2.1; omega) (HBV.out.step s.2)))
 rw [tag_ok HBP.out.1.1 HBP.out.1.2 HBP.out.2.1 HMN.out.2.1] at CT
 dsimp only at CT
 have CS := Lib.hid (fun W hA => sum_any 2 (by decide) pt c7 (some ⟨g7, 0, none⟩) M W HBP.out.2.2 HMN.out.1 (by have := HMN.out.2.1; omega) hA)
 rw [show dig (prim 2) (2 + 1) pt M = headD pt M from rfl] at CS
 generalize (headD bk.1 M + pd) % P31 = D3 at *
 generalize headD pt M = D1 at *
 refine wp_region_lock (by kernel_rfl) (by kernel_rfl) ?_
 repeat (first | (refine WQ.skip rfl rfl rfl rfl ?_; simp only [Act.put, List.setIfInBounds_toArray, List.set_cons_zero, List.set_cons_succ, List.set_nil]) | ((first | (apply WQ.val; (exact rfl)) | (apply WQ.valg; (exact rfl); (exact rfl); (exact rfl))); (intro w9 hw9; obtain ⟨s9, rfl⟩ := hw9; simp [go_sem, s0, s1, s2, k0, k1, k1n, k2, k3, k3n]; first | done | exact rfl | (with_reducible exact CT.out s9)); simp only [Act.put, List.setIfInBounds_toArray, List.set_cons_zero, List.set_cons_succ, List.set_nil]))
 refine WQ.fin fun w8 hw8 => ?_
 go_upto_region 6 with fail
 have HEV := Lib.hid (blk_step HX2.out hw8)
 have HZ8 := Lib.hid (blk_step HZ2.out hw8)
 have HX8 := Lib.hid (bStep HW2.out hw8)
 have HBT := Lib.hid (HBV.out.step hw8)
 have HGN : Hid (g7 ≠ w.heap.size + 1 ∧ w.heap.size ≠ w.heap.size + 1) := ⟨by have := HGG.out.1; have := HW1.out.size; have := HB0.out.size; have h9 := blk_lt HZ2.out; have := HXG.out; omega, by omega⟩
 clear s0 s1 s2 CT k0 k1 k1n k2 k3 k3n hw8
 refine region_all 9 20 62 [(8, 62)] [(none, []), (none, []), (none, []), (none, []), (none, []), (none, []), (none, []), (none, []), (some 0, [])] [(54, (.agg #[.int .i64 k, .int .i64 t, .int .i64 a1, .int .i64 b1, .string nm, .string ot])), (55, (.int .i64 (n : Int))), (56, (.int .i64 (m : Int))), (57, (.int .u64 (pt : Int))), (58, (.slice (some ⟨g7, 0, none⟩) M.length c7)), (59, (.int .u64 (D1 : Int))), (60, (.int .u64 (D3 : Int))), (61, (entX ((k, t, a1, b1, nm, ot), (n : Int), (m : Int), D1, D3)))] (fun bsE vsE W => Nx5 w w8 (entC ((k, t, a1, b1, nm, ot), (n : Int), (m : Int), D1, D3)).toArray (bsE.getD 0 false) W) (by kernel_rfl) (by kernel_rfl) rfl rfl (by kernel_rfl) (by rfl) ?h0 ?each ?done
 case h0 =>
  intro vsE hlv
  obtain ⟨v0, vsE0, rfl, hlv0⟩ := len_one hlv
  obtain rfl := len_nil hlv0
  exact ⟨(OnlyB.start HZ8.out).step (Below.refl _ _).drew, HX8.out.drew, HZ8.out⟩
 case each =>
  simp only [AllE]
  refine ⟨⟨54, (.agg #[.int .i64 k, .int .i64 t, .int .i64 a1, .int .i64 b1, .string nm, .string ot]), rfl, by kernel_rfl, ?_⟩, ⟨55, (.int .i64 (n : Int)), rfl, by kernel_rfl, ?_⟩, ⟨56, (.int .i64 (m : Int)), rfl, by kernel_rfl, ?_⟩, ⟨57, (.int .u64 (pt : Int)), rfl, by kernel_rfl, ?_⟩, ⟨58, (.slice (some ⟨g7, 0, none⟩) M.length c7), rfl, by kernel_rfl, ?_⟩, ⟨59, (.int .u64 (D1 : Int)), rfl, by kernel_rfl, ?q1_5⟩, ⟨60, (.int .u64 (D3 : Int)), rfl, by kernel_rfl, ?_⟩, ⟨61, (entX ((k, t, a1, b1, nm, ot), (n : Int), (m : Int), D1, D3)), rfl, by kernel_rfl, ?_⟩, Or.inr ⟨rfl, ?q1_8⟩, trivial⟩
  case q1_5 =>
   intro bsE vsE W hlb hlv hnd h
   obtain ⟨b0, bsE0, rfl, hlb0⟩ := len_one hlb
   obtain ⟨v0, vsE0, rfl, hlv0⟩ := len_one hlv
   obtain rfl := len_nil hlb0
   obtain rfl := len_nil hlv0
   replace h : Nx5 w w8 (entC ((k, t, a1, b1, nm, ot), (n : Int), (m : Int), D1, D3)).toArray b0 W := h
   clear hnd
   have HST := Lib.hid h
   have u0 := h.only.cell HGN.out.2 (blk_cell (o := 0) HEV.out rfl); have u1 := h.only.cell HGN.out.2 (blk_cell (o := 1) HEV.out rfl); have u2 := h.only.cell HGN.out.2 (blk_cell (o := 2) HEV.out rfl); have u3 := h.only.cell HGN.out.2 (blk_cell (o := 3) HEV.out rfl); have u4 := h.only.cell HGN.out.2 (blk_cell (o := 4) HEV.out rfl); have u5 := h.only.cell HGN.out.2 (blk_cell (o := 5) HEV.out rfl); have ul := Nat.lt_of_lt_of_le (blk_lt HEV.out) h.only.size
   intro K Q hK
   simp only [putE, updAll, Act.put, List.setIfInBounds_toArray, List.set_cons_zero, List.set_cons_succ, List.set_nil] at hK ⊢
   go_wp2_with (go_at_call 116; refine (CS.out _ (BytV.only HBT.out h.only HGN.out.1)).mono ?_; rintro e w9 ⟨rfl, hb9⟩)
   all_goals (first | exact hK _ (h.step hb9) | exact (h.step hb9))
  case q1_8 =>
   intro bsE vsE W hlb hlv hnd hbk h
   obtain ⟨b0, bsE0, rfl, hlb0⟩ := len_one hlb
   obtain ⟨v0, vsE0, rfl, hlv0⟩ := len_one hlv
   obtain rfl := len_nil hlb0
   obtain rfl := len_nil hlv0
   obtain rfl : b0 = false := hbk
   replace h : Nx5 w w8 (entC ((k, t, a1, b1, nm, ot), (n : Int), (m : Int), D1, D3)).toArray false W := h
   clear hnd
   have HST := Lib.hid h
   have hz : W.heap[w.heap.size + 1]? = some (.cells #[.int .i64 0, .int .i64 0, .int .i64 0, .int .i64 0, .string ⟨#[]⟩, .string ⟨#[]⟩, .int .i64 0, .int .i64 0, .int .u64 0, .int .u64 0] 31 (0, 0)) := h.blk; have z0 := blk_cell (o := 0) hz rfl; have f0 := blk_free (o := 0) hz; have z1 := blk_cell (o := 1) hz rfl; have f1 := blk_free (o := 1) hz; have z2 := blk_cell (o := 2) hz rfl; have f2 := blk_free (o := 2) hz; have z3 := blk_cell (o := 3) hz rfl; have f3 := blk_free (o := 3) hz; have z4 := blk_cell (o := 4) hz rfl; have f4 := blk_free (o := 4) hz; have z5 := blk_cell (o := 5) hz rfl; have f5 := blk_free (o := 5) hz; have z6 := blk_cell (o := 6) hz rfl; have f6 := blk_free (o := 6) hz; have z7 := blk_cell (o := 7) hz rfl; have f7 := blk_free (o := 7) hz; have z8 := blk_cell (o := 8) hz rfl; have f8 := blk_free (o := 8) hz; have z9 := blk_cell (o := 9) hz rfl; have f9 := blk_free (o := 9) hz; have zl := blk_lt hz; clear hz
   intro K Q hK
   simp only [putE, updAll, Act.put, List.setIfInBounds_toArray, List.set_cons_zero, List.set_cons_succ, List.set_nil] at hK ⊢
   unfold entX entC
   go_wp2_with fail
   all_goals (first | exact hK _ h.fin | exact h.fin)
  all_goals
   intro bsE vsE W hlb hlv hnd h
   obtain ⟨b0, bsE0, rfl, hlb0⟩ := len_one hlb
   obtain ⟨v0, vsE0, rfl, hlv0⟩ := len_one hlv
   obtain rfl := len_nil hlb0
   obtain rfl := len_nil hlv0
   replace h : Nx5 w w8 (entC ((k, t, a1, b1, nm, ot), (n : Int), (m : Int), D1, D3)).toArray b0 W := h
   clear hnd
   have HST := Lib.hid h
   have u0 := h.only.cell HGN.out.2 (blk_cell (o := 0) HEV.out rfl); have u1 := h.only.cell HGN.out.2 (blk_cell (o := 1) HEV.out rfl); have u2 := h.only.cell HGN.out.2 (blk_cell (o := 2) HEV.out rfl); have u3 := h.only.cell HGN.out.2 (blk_cell (o := 3) HEV.out rfl); have u4 := h.only.cell HGN.out.2 (blk_cell (o := 4) HEV.out rfl); have u5 := h.only.cell HGN.out.2 (blk_cell (o := 5) HEV.out rfl); have ul := Nat.lt_of_lt_of_le (blk_lt HEV.out) h.only.size
   intro K Q hK
   simp only [putE, updAll, Act.put, List.setIfInBounds_toArray, List.set_cons_zero, List.set_cons_succ, List.set_nil] at hK ⊢
   go_wp2_with (fail)
   all_goals (first | exact hK _ h | exact h)
 case done =>
  intro vsE W hlv h
  obtain ⟨v0, vsE0, rfl, hlv0⟩ := len_one hlv
  obtain rfl := len_nil hlv0
  replace h : Nx5 w w8 (entC ((k, t, a1, b1, nm, ot), (n : Int), (m : Int), D1, D3)).toArray true W := h
  have HST := Lib.hid h
  have H5 := Lib.hid h.blk
  have H6 := Lib.hid h.bel
  clear h HST
  simp only [putE, updAll, Act.put, List.setIfInBounds_toArray, List.set_cons_zero, List.set_cons_succ, List.set_nil]
  go_wp2_with fail
  refine bodyPost_ret (v := entX ((k, t, a1, b1, nm, ot), (n : Int), (m : Int), D1, D3)) (res_cell1 Tryz.results52 rfl (ent_load H5.out)) rfl ⟨by rw [HN.out], H6.out⟩
set_option maxHeartbeats 8000000 in
set_option maxRecDepth 20000 in
theorem RRight_1 {ae : Option Addr} {es : List Ent} {bks : List Bk} {w : World} (pt bb ob c cb n m pd : Nat) (name : ByteArray) (bk : Bk) (e : Evt) (hE : EntAt ae es w) (hB : BksAt (some ⟨bb, ob, none⟩) bks w) (hok : okX e = true) (hsz : e.2.2.2.2.1.size ≤ 100 ∧ e.2.2.2.2.2.size ≤ 100)
  (hk : bks[n]? = some bk) (hpd : bk.2[m]? = some pd) (hpt : pt < P31) (hbp : 1 ≤ bk.1 ∧ bk.1 < P31) (hp31 : pd < P31) (hl : es.length ≤ 1000000 ∧ bks.length ≤ 1000000 ∧ bk.2.length ≤ 1000000) (hnm : name.size ≤ 1000) (hhd : ∀ y ∈ es, y.2.2.2.1 < 18446744073709551616) (hn : es ≠ []) :
  Calls Tryz.prog 52 #[.int .u64 (pt : Int), .slice (some ⟨bb, ob, none⟩) bks.length cb, .string name, .slice ae es.length c, evX e, .int .i64 (n : Int), .int .i64 (m : Int)] w fun en w' => en = .returned (entX (nextE pt bks (headOf pt name es) e n m)) ∧ Below w.heap.size w w' := by
 have CB := Lib.hid (fun W => RBegin_any pt name W hpt hnm)
 have hH : headOf pt name es < 18446744073709551616 := by
  unfold headOf
  cases hg : es.getLast? with
  | none => have := beginE_lt pt name; unfold P31 at this; dsimp only; omega
  | some y => exact hhd y (List.mem_of_getLast? hg)
 have CM := Lib.hid (fun W => Message_any (headOf pt name es) n e W hH hok hsz)
 have HML := Lib.hid (bytX_len e hok hsz)
 have HBYT := Lib.hid (bytX_byt e hok hsz)
 obtain ⟨bb2, ob2, ebb, hbb, hbc⟩ := hB (by rintro rfl; cases hk)
 cases ebb
 obtain ⟨s0, vp, s1, hpv⟩ := hbc n bk hk
 obtain ⟨ap, cp, rfl, hpc⟩ := hpv
 obtain ⟨bp, op, rfl, hbp2, hpd2⟩ := hpc (by intro e; rw [e] at hpd; cases hpd)
 have s2 := hpd2 m pd hpd
 have HSB := Lib.hid (And.intro s0 (And.intro s1 s2))
 have hN : nextE pt bks (headOf pt name es) e n m = (e, (n : Int), (m : Int), headD pt (msgE (headOf pt name es) e n), (headD bk.1 (msgE (headOf pt name es) e n) + pd) % P31) := by
  unfold nextE
  rw [List.getD_eq_getElem?_getD, hk]
  simp only [Option.getD_some]
  rw [List.getD_eq_getElem?_getD, hpd]
  rfl
 have HN := Lib.hid hN
 have k0 : (0 : Int) ≤ n := by omega
 have k1 : (n : Int) < bks.length := by have := (List.getElem?_eq_some_iff.1 hk).1; omega
 have k1n : n < bks.length := by have := (List.getElem?_eq_some_iff.1 hk).1; omega
 have k2 : (0 : Int) ≤ m := by omega
 have k3 : (m : Int) < bk.2.length := by have := (List.getElem?_eq_some_iff.1 hpd).1; omega
 have k3n : m < bk.2.length := by have := (List.getElem?_eq_some_iff.1 hpd).1; omega
 have HBP := Lib.hid (And.intro hbp (And.intro hp31 hpt))
 obtain ⟨k, t, a1, b1, nm, ot⟩ := e
 have HX := Lib.hid (blk_step (blk_new w (.cells #[.int .i64 k, .int .i64 t, .int .i64 a1, .int .i64 b1, .string nm, .string ot] 29)) (bAl (o := (.cells #[.int .i64 0, .int .i64 0, .int .i64 0, .int .i64 0, .string ⟨#[]⟩, .string ⟨#[]⟩, .int .i64 0, .int .i64 0, .int .u64 0, .int .u64 0] 31))))
 have HZ : Hid (((w.alloc (.cells #[.int .i64 k, .int .i64 t, .int .i64 a1, .int .i64 b1, .string nm, .string ot] 29)).alloc (.cells #[.int .i64 0, .int .i64 0, .int .i64 0, .int .i64 0, .string ⟨#[]⟩, .string ⟨#[]⟩, .int .i64 0, .int .i64 0, .int .u64 0, .int .u64 0] 31)).heap[w.heap.size + 1]? = some (.cells #[.int .i64 0, .int .i64 0, .int .i64 0, .int .i64 0, .string ⟨#[]⟩, .string ⟨#[]⟩, .int .i64 0, .int .i64 0, .int .u64 0, .int .u64 0] 31 (0, 0))) := by
  have h := blk_new (w.alloc (.cells #[.int .i64 k, .int .i64 t, .int .i64 a1, .int .i64 b1, .string nm, .string ot] 29)) (.cells #[.int .i64 0, .int .i64 0, .int .i64 0, .int .i64 0, .string ⟨#[]⟩, .string ⟨#[]⟩, .int .i64 0, .int .i64 0, .int .u64 0, .int .u64 0] 31)
  rw [show (w.alloc (.cells #[.int .i64 k, .int .i64 t, .int .i64 a1, .int .i64 b1, .string nm, .string ot] 29)).heap.size = w.heap.size + 1 by simp] at h
  exact h
 have HB0 : Hid (Below w.heap.size w ((w.alloc (.cells #[.int .i64 k, .int .i64 t, .int .i64 a1, .int .i64 b1, .string nm, .string ot] 29)).alloc (.cells #[.int .i64 0, .int .i64 0, .int .i64 0, .int .i64 0, .string ⟨#[]⟩, .string ⟨#[]⟩, .int .i64 0, .int .i64 0, .int .u64 0, .int .u64 0] 31))) := bAlloc bAl _
 obtain ⟨j, hj⟩ : ∃ j, es.length = j + 1 := ⟨es.length - 1, by have : es.length ≠ 0 := fun e => hn (List.length_eq_zero_iff.1 e); omega⟩
 obtain ⟨y, hy⟩ : ∃ y, es[j]? = some y := ⟨es[j]'(by omega), List.getElem?_eq_getElem (by omega)⟩
 obtain ⟨b, off, rfl, hb0, hcs⟩ := hE hn
 have HHD : Hid (headOf pt name es = y.2.2.2.1) := by
  unfold Hid headOf
  have hg : es.getLast? = some y := by rw [List.getLast?_eq_getElem?, hj]; exact hy
  rw [hg]
 have hY8 : w.cell? ⟨b, off + j * 10 + 8, none⟩ = some (.int .u64 (y.2.2.2.1 : Int)) := by
  have := hcs j y hy 8 (.int .u64 (y.2.2.2.1 : Int)) (by obtain ⟨⟨q1, q2, q3, q4, q5, q6⟩, q7, q8, q9, q10⟩ := y; rfl)
  exact this
 rw [← HHD.out] at hY8
 have HY8 := Lib.hid hY8
 have hj1 : (es.length : Int) - 1 = (j : Int) := by omega
 have hj2 : (j : Int) < es.length := by omega
 have hj0 : (0 : Int) ≤ j := by omega
 have hj4 : (0 : Int) < es.length := by omega
 have hjw : IntKind.i64.wrap (j : Int) = (j : Int) := Go.IntWalk.i64_in _ ⟨by omega, by have := hl.1; omega⟩
 clear hj hcs hb0 hY8 hy
 change Calls Tryz.prog 52 #[.int .u64 (pt : Int), .slice (some ⟨bb, ob, none⟩) bks.length cb, .string name, .slice (some ⟨b, off, none⟩) es.length c, .agg #[.int .i64 k, .int .i64 t, .int .i64 a1, .int .i64 b1, .string nm, .string ot], .int .i64 (n : Int), .int .i64 (m : Int)] w _
 replace CM : Hid (∀ W, Calls Tryz.prog 114 #[.int .u64 (headOf pt name es : Int), .agg #[.int .i64 k, .int .i64 t, .int .i64 a1, .int .i64 b1, .string nm, .string ot], .int .i64 (n : Int)] W fun en w' => ∃ v, en = .returned v ∧ w'.ownsRow W.heap.size 5 1 v (msgE (headOf pt name es) (k, t, a1, b1, nm, ot) n).length (byC (msgE (headOf pt name es) (k, t, a1, b1, nm, ot) n)) ∧ Below W.heap.size W w') := CM
 have HMN : Hid (Byt (msgE (headOf pt name es) (k, t, a1, b1, nm, ot) n) ∧ (msgE (headOf pt name es) (k, t, a1, b1, nm, ot) n).length ≤ 1000 ∧ 0 < (msgE (headOf pt name es) (k, t, a1, b1, nm, ot) n).length) := ⟨nx_byt HBYT.out, by unfold msgE; have := HML.out; rw [List.length_append, List.length_append, bigL_len]; simp; omega, by unfold msgE; rw [List.length_append, List.length_append, bigL_len]; omega⟩
 clear hN hbp hp31 hpt hhd hH hE hB hok hsz hk hpd s0 s1 s2 hbc hpc hpd2 hbb hbp2 hl hnm HBYT HML hn
 generalize hM : msgE (headOf pt name es) (k, t, a1, b1, nm, ot) n = M at *
 clear hM
 go_enter Tryz.func52, Tryz.ntmps52
 generalize headOf pt name es = H at *
 go_upto_region 3 with (go_at_call 113; refine (CB.out _).mono ?_; rintro e w1 ⟨rfl, hb1⟩; have HW1 := Lib.hid (bStep HB0.out hb1); have HXS := Lib.hid hb1; clear hb1)
 have y8 := cell_step HY8.out HW1.out
 have yl := World.block_lt_of_cell? _ _ y8
 go_upto_region 4 with fail
 clear y8 yl hj1 hj2 hj0 hj4 hjw HY8
 have HX1 := Lib.hid (blk_step HX.out HXS.out)
 have HZ1 := Lib.hid (blk_step HZ.out HXS.out)
 have HXG := Lib.hid (blk_lt HZ1.out)
 have u0 := blk_cell (o := 0) HX1.out rfl
 have u1 := blk_cell (o := 1) HX1.out rfl
 have u2 := blk_cell (o := 2) HX1.out rfl
 have u3 := blk_cell (o := 3) HX1.out rfl
 have u4 := blk_cell (o := 4) HX1.out rfl
 have u5 := blk_cell (o := 5) HX1.out rfl
 have ul := blk_lt HX1.out
 clear HX HZ HXS
 go_upto_region 5 with (go_at_call 114; refine (CM.out _).mono ?_; rintro e w2 ⟨v2, rfl, ho2, hb2⟩; obtain ⟨g7, c7, rfl, hg7, hg8, hB7⟩ := own_msg ho2 HMN.out.2.2; have HGG := Lib.hid (And.intro hg7 hg8); have HBV := Lib.hid hB7; have HXS := Lib.hid hb2; clear ho2 hg7 hg8 hB7 hb2)
 have HX2 := Lib.hid (blk_step HX1.out HXS.out)
 have HZ2 := Lib.hid (blk_step HZ1.out HXS.out)
 have HW2 := Lib.hid (bStep HW1.out HXS.out)
 clear u0 u1 u2 u3 u4 u5 ul HX1 HZ1
 have s0 : ∀ s : WStep w2, s.1.cell? ⟨bb, ob + n * 2, none⟩ = some (.int .u64 (bk.1 : Int)) := fun s => cell_step HSB.out.1 (bStep HW2.out s.2)
 have s1 : ∀ s : WStep w2, s.1.cell? ⟨bb, ob + n * 2 + 1, none⟩ = some (.slice (some ⟨bp, op, none⟩) bk.2.length cp) := fun s => cell_step HSB.out.2.1 (bStep HW2.out s.2)
 have s2 : ∀ s : WStep w2, s.1.cell? ⟨bp, op + m, none⟩ = some (.int .u64 (pd : Int)) := fun s => cell_step HSB.out.2.2 (bStep HW2.out s.2)
 have CT := Lib.hid (fun s : WStep w2 => step_call s (RTag_any 2 bk.1 pd c7 (some ⟨g7, 0, none⟩) M s.1 (by have := HBP.out.1.2; unfold P31 at this; omega) (by have := HBP.out.2.1; unfold P31 at this; omega) HMN.out.1 (by have := HMN.out.2.1; omega) (HBV.out.step s.2)))
 rw [tag_ok HBP.out.1.1 HBP.out.1.2 HBP.out.2.1 HMN.out.2.1] at CT
 dsimp only at CT
 have CS := Lib.hid (fun W hA => sum_any 2 (by decide) pt c7 (some ⟨g7, 0, none⟩) M W HBP.out.2.2 HMN.out.1 (by have := HMN.out.2.1; omega) hA)
 rw [show dig (prim 2) (2 + 1) pt M = headD pt M from rfl] at CS
 generalize (headD bk.1 M + pd) % P31 = D3 at *
 generalize headD pt M = D1 at *
 refine wp_region_lock (by kernel_rfl) (by kernel_rfl) ?_
 repeat (first | (refine WQ.skip rfl rfl rfl rfl ?_; simp only [Act.put, List.setIfInBounds_toArray, List.set_cons_zero, List.set_cons_succ, List.set_nil]) | ((first | (apply WQ.val; (exact rfl)) | (apply WQ.valg; (exact rfl); (exact rfl); (exact rfl))); (intro w9 hw9; obtain ⟨s9, rfl⟩ := hw9; simp [go_sem, s0, s1, s2, k0, k1, k1n, k2, k3, k3n]; first | done | exact rfl | (with_reducible exact CT.out s9)); simp only [Act.put, List.setIfInBounds_toArray, List.set_cons_zero, List.set_cons_succ, List.set_nil]))
 refine WQ.fin fun w8 hw8 => ?_
 go_upto_region 6 with fail
 have HEV := Lib.hid (blk_step HX2.out hw8)
 have HZ8 := Lib.hid (blk_step HZ2.out hw8)
 have HX8 := Lib.hid (bStep HW2.out hw8)
 have HBT := Lib.hid (HBV.out.step hw8)
 have HGN : Hid (g7 ≠ w.heap.size + 1 ∧ w.heap.size ≠ w.heap.size + 1) := ⟨by have := HGG.out.1; have := HW1.out.size; have := HB0.out.size; have h9 := blk_lt HZ2.out; have := HXG.out; omega, by omega⟩
 clear s0 s1 s2 CT k0 k1 k1n k2 k3 k3n hw8
 refine region_all 9 20 62 [(8, 62)] [(none, []), (none, []), (none, []), (none, []), (none, []), (none, []), (none, []), (none, []), (some 0, [])] [(54, (.agg #[.int .i64 k, .int .i64 t, .int .i64 a1, .int .i64 b1, .string nm, .string ot])), (55, (.int .i64 (n : Int))), (56, (.int .i64 (m : Int))), (57, (.int .u64 (pt : Int))), (58, (.slice (some ⟨g7, 0, none⟩) M.length c7)), (59, (.int .u64 (D1 : Int))), (60, (.int .u64 (D3 : Int))), (61, (entX ((k, t, a1, b1, nm, ot), (n : Int), (m : Int), D1, D3)))] (fun bsE vsE W => Nx5 w w8 (entC ((k, t, a1, b1, nm, ot), (n : Int), (m : Int), D1, D3)).toArray (bsE.getD 0 false) W) (by kernel_rfl) (by kernel_rfl) rfl rfl (by kernel_rfl) (by rfl) ?h0 ?each ?done
 case h0 =>
  intro vsE hlv
  obtain ⟨v0, vsE0, rfl, hlv0⟩ := len_one hlv
  obtain rfl := len_nil hlv0
  exact ⟨(OnlyB.start HZ8.out).step (Below.refl _ _).drew, HX8.out.drew, HZ8.out⟩
 case each =>
  simp only [AllE]
  refine ⟨⟨54, (.agg #[.int .i64 k, .int .i64 t, .int .i64 a1, .int .i64 b1, .string nm, .string ot]), rfl, by kernel_rfl, ?_⟩, ⟨55, (.int .i64 (n : Int)), rfl, by kernel_rfl, ?_⟩, ⟨56, (.int .i64 (m : Int)), rfl, by kernel_rfl, ?_⟩, ⟨57, (.int .u64 (pt : Int)), rfl, by kernel_rfl, ?_⟩, ⟨58, (.slice (some ⟨g7, 0, none⟩) M.length c7), rfl, by kernel_rfl, ?_⟩, ⟨59, (.int .u64 (D1 : Int)), rfl, by kernel_rfl, ?q2_5⟩, ⟨60, (.int .u64 (D3 : Int)), rfl, by kernel_rfl, ?_⟩, ⟨61, (entX ((k, t, a1, b1, nm, ot), (n : Int), (m : Int), D1, D3)), rfl, by kernel_rfl, ?_⟩, Or.inr ⟨rfl, ?q2_8⟩, trivial⟩
  case q2_5 =>
   intro bsE vsE W hlb hlv hnd h
   obtain ⟨b0, bsE0, rfl, hlb0⟩ := len_one hlb
   obtain ⟨v0, vsE0, rfl, hlv0⟩ := len_one hlv
   obtain rfl := len_nil hlb0
   obtain rfl := len_nil hlv0
   replace h : Nx5 w w8 (entC ((k, t, a1, b1, nm, ot), (n : Int), (m : Int), D1, D3)).toArray b0 W := h
   clear hnd
   have HST := Lib.hid h
   have u0 := h.only.cell HGN.out.2 (blk_cell (o := 0) HEV.out rfl); have u1 := h.only.cell HGN.out.2 (blk_cell (o := 1) HEV.out rfl); have u2 := h.only.cell HGN.out.2 (blk_cell (o := 2) HEV.out rfl); have u3 := h.only.cell HGN.out.2 (blk_cell (o := 3) HEV.out rfl); have u4 := h.only.cell HGN.out.2 (blk_cell (o := 4) HEV.out rfl); have u5 := h.only.cell HGN.out.2 (blk_cell (o := 5) HEV.out rfl); have ul := Nat.lt_of_lt_of_le (blk_lt HEV.out) h.only.size
   intro K Q hK
   simp only [putE, updAll, Act.put, List.setIfInBounds_toArray, List.set_cons_zero, List.set_cons_succ, List.set_nil] at hK ⊢
   go_wp2_with (go_at_call 116; refine (CS.out _ (BytV.only HBT.out h.only HGN.out.1)).mono ?_; rintro e w9 ⟨rfl, hb9⟩)
   all_goals (first | exact hK _ (h.step hb9) | exact (h.step hb9))
  case q2_8 =>
   intro bsE vsE W hlb hlv hnd hbk h
   obtain ⟨b0, bsE0, rfl, hlb0⟩ := len_one hlb
   obtain ⟨v0, vsE0, rfl, hlv0⟩ := len_one hlv
   obtain rfl := len_nil hlb0
   obtain rfl := len_nil hlv0
   obtain rfl : b0 = false := hbk
   replace h : Nx5 w w8 (entC ((k, t, a1, b1, nm, ot), (n : Int), (m : Int), D1, D3)).toArray false W := h
   clear hnd
   have HST := Lib.hid h
   have hz : W.heap[w.heap.size + 1]? = some (.cells #[.int .i64 0, .int .i64 0, .int .i64 0, .int .i64 0, .string ⟨#[]⟩, .string ⟨#[]⟩, .int .i64 0, .int .i64 0, .int .u64 0, .int .u64 0] 31 (0, 0)) := h.blk; have z0 := blk_cell (o := 0) hz rfl; have f0 := blk_free (o := 0) hz; have z1 := blk_cell (o := 1) hz rfl; have f1 := blk_free (o := 1) hz; have z2 := blk_cell (o := 2) hz rfl; have f2 := blk_free (o := 2) hz; have z3 := blk_cell (o := 3) hz rfl; have f3 := blk_free (o := 3) hz; have z4 := blk_cell (o := 4) hz rfl; have f4 := blk_free (o := 4) hz; have z5 := blk_cell (o := 5) hz rfl; have f5 := blk_free (o := 5) hz; have z6 := blk_cell (o := 6) hz rfl; have f6 := blk_free (o := 6) hz; have z7 := blk_cell (o := 7) hz rfl; have f7 := blk_free (o := 7) hz; have z8 := blk_cell (o := 8) hz rfl; have f8 := blk_free (o := 8) hz; have z9 := blk_cell (o := 9) hz rfl; have f9 := blk_free (o := 9) hz; have zl := blk_lt hz; clear hz
   intro K Q hK
   simp only [putE, updAll, Act.put, List.setIfInBounds_toArray, List.set_cons_zero, List.set_cons_succ, List.set_nil] at hK ⊢
   unfold entX entC
   go_wp2_with fail
   all_goals (first | exact hK _ h.fin | exact h.fin)
  all_goals
   intro bsE vsE W hlb hlv hnd h
   obtain ⟨b0, bsE0, rfl, hlb0⟩ := len_one hlb
   obtain ⟨v0, vsE0, rfl, hlv0⟩ := len_one hlv
   obtain rfl := len_nil hlb0
   obtain rfl := len_nil hlv0
   replace h : Nx5 w w8 (entC ((k, t, a1, b1, nm, ot), (n : Int), (m : Int), D1, D3)).toArray b0 W := h
   clear hnd
   have HST := Lib.hid h
   have u0 := h.only.cell HGN.out.2 (blk_cell (o := 0) HEV.out rfl); have u1 := h.only.cell HGN.out.2 (blk_cell (o := 1) HEV.out rfl); have u2 := h.only.cell HGN.out.2 (blk_cell (o := 2) HEV.out rfl); have u3 := h.only.cell HGN.out.2 (blk_cell (o := 3) HEV.out rfl); have u4 := h.only.cell HGN.out.2 (blk_cell (o := 4) HEV.out rfl); have u5 := h.only.cell HGN.out.2 (blk_cell (o := 5) HEV.out rfl); have ul := Nat.lt_of_lt_of_le (blk_lt HEV.out) h.only.size
   intro K Q hK
   simp only [putE, updAll, Act.put, List.setIfInBounds_toArray, List.set_cons_zero, List.set_cons_succ, List.set_nil] at hK ⊢
   go_wp2_with (fail)
   all_goals (first | exact hK _ h | exact h)
 case done =>
  intro vsE W hlv h
  obtain ⟨v0, vsE0, rfl, hlv0⟩ := len_one hlv
  obtain rfl := len_nil hlv0
  replace h : Nx5 w w8 (entC ((k, t, a1, b1, nm, ot), (n : Int), (m : Int), D1, D3)).toArray true W := h
  have HST := Lib.hid h
  have H5 := Lib.hid h.blk
  have H6 := Lib.hid h.bel
  clear h HST
  simp only [putE, updAll, Act.put, List.setIfInBounds_toArray, List.set_cons_zero, List.set_cons_succ, List.set_nil]
  go_wp2_with fail
  refine bodyPost_ret (v := entX ((k, t, a1, b1, nm, ot), (n : Int), (m : Int), D1, D3)) (res_cell1 Tryz.results52 rfl (ent_load H5.out)) rfl ⟨by rw [HN.out], H6.out⟩
theorem RRight_any {ae : Option Addr} {es : List Ent} {bks : List Bk} {w : World} (pt bb ob c cb n m pd : Nat) (name : ByteArray) (bk : Bk) (e : Evt) (hE : EntAt ae es w) (hB : BksAt (some ⟨bb, ob, none⟩) bks w) (hok : okX e = true) (hsz : e.2.2.2.2.1.size ≤ 100 ∧ e.2.2.2.2.2.size ≤ 100)
  (hk : bks[n]? = some bk) (hpd : bk.2[m]? = some pd) (hpt : pt < P31) (hbp : 1 ≤ bk.1 ∧ bk.1 < P31) (hp31 : pd < P31) (hl : es.length ≤ 1000000 ∧ bks.length ≤ 1000000 ∧ bk.2.length ≤ 1000000) (hnm : name.size ≤ 1000) (hhd : ∀ y ∈ es, y.2.2.2.1 < 18446744073709551616) :
  Calls Tryz.prog 52 #[.int .u64 (pt : Int), .slice (some ⟨bb, ob, none⟩) bks.length cb, .string name, .slice ae es.length c, evX e, .int .i64 (n : Int), .int .i64 (m : Int)] w fun en w' => en = .returned (entX (nextE pt bks (headOf pt name es) e n m)) ∧ Below w.heap.size w w' := by
 by_cases hn : es = []
 ·exact RRight_0 pt bb ob c cb n m pd name bk e hE hB hok hsz hk hpd hpt hbp hp31 hl hnm hhd hn
 ·exact RRight_1 pt bb ob c cb n m pd name bk e hE hB hok hsz hk hpd hpt hbp hp31 hl hnm hhd hn
end Go.Proofs.YtmpilgkfbibhlaaGreatDoor
namespace Go.Proofs.YtmpilgkfbibhlaaGreatDoor
open Go.RowKit Mr
theorem infoStr : (Tryz.prog.info? 9).map (fun i => (i.zero, i.size, i.bytes)) = some (some (.string ⟨#[]⟩), 1, 16) := by kernel_rfl
structure OS (w : World) (l : List ByteArray) (v : Value) (W : World) : Prop where
 own : W.ownsRow w.heap.size 9 1 v l.length (l.map Value.string)
 bel : Below w.heap.size w W
structure OS2 (w : World) (l m : List ByteArray) (v u : Value) (W : World) : Prop where
 r1 : W.ownsRow w.heap.size 9 1 v l.length (l.map Value.string)
 r2 : W.ownsRow w.heap.size 9 1 u m.length (m.map Value.string)
 far : Far v u
 bel : Below w.heap.size w W
section
variable {w W w2 : World} {l m : List ByteArray} {v u u' : Value} {t : ByteArray}
theorem OS.step (h : OS w l v W) (hb : Below W.heap.size W w2) : OS w l v w2 := ⟨own_step h.own hb, bStep h.bel hb⟩
theorem OS.nil (w : World) : OS w [] (.slice none 0 0) w := ⟨⟨rfl, Or.inl ⟨rfl, rfl⟩⟩, Below.refl _ _⟩
theorem OS.app {w5 : World} (h : OS w l v W) (ho : w5.ownsRow w.heap.size 9 1 u' (l.length + 1) (l.map Value.string ++ [.string t])) (hg : W.grownBy w5 v.ownBlock) : OS w (l ++ [t]) u' w5 := by
 refine ⟨?_, h.bel.grown hg h.bel.size fun k hk => (World.ownsRow.lt h.own k hk).1⟩
 rw [List.length_append, List.map_append]; exact ho
theorem OS.two (h : OS w l v W) : OS2 w l [] v (.slice none 0 0) W := ⟨h.own, ⟨rfl, Or.inl ⟨rfl, rfl⟩⟩, (fun k _ e => by cases e), h.bel⟩
theorem OS2.step (h : OS2 w l m v u W) (hb : Below W.heap.size W w2) : OS2 w l m v u w2 := ⟨own_step h.r1 hb, own_step h.r2 hb, h.far, bStep h.bel hb⟩
theorem OS2.app {w5 : World} (h : OS2 w l m v u W) (ho : w5.ownsRow w.heap.size 9 1 u' (m.length + 1) (m.map Value.string ++ [.string t])) (hg : W.grownBy w5 u.ownBlock) (hat : u'.ownBlock = u.ownBlock ∨ u'.ownBlock = some W.heap.size) : OS2 w l (m ++ [t]) v u' w5 := by
 refine ⟨World.ownsRow.kept h.r1 hg h.far.ne, ?_, fun k e1 e2 => ?_, h.bel.grown hg h.bel.size fun k hk => (World.ownsRow.lt h.r2 k hk).1⟩
 ·rw [List.length_append, List.map_append]; exact ho
 ·rcases hat with q | q
  ·exact h.far k e1 (q.symm.trans e2)
  ·rw [q] at e2
   have := (World.ownsRow.lt h.r1 k e1).2
   simp at e2
   omega
theorem OS2.snd (h : OS2 w l m v u W) : OS w m u W := ⟨h.r2, h.bel⟩
theorem OS2.fst (h : OS2 w l m v u W) : OS w l v W := ⟨h.r1, h.bel⟩
theorem OS.srow (h : OS w l v W) : SRow v l W := SRow.of_own h.own
theorem OS.cells (h : OS w l v W) : ∃ a c, v = .slice a l.length c ∧ (l ≠ [] → ∃ b, a = some ⟨b, 0, none⟩ ∧ b < W.heap.size ∧ ∀ (j : Nat) (t : ByteArray), l[j]? = some t → W.cell? ⟨b, j, none⟩ = some (.string t)) := by
 obtain ⟨a, c, h1, h2⟩ := Rw.Own.get (r := ⟨9, 1, v, l.length, l.map Value.string⟩) h.own
 refine ⟨a, c, h1, fun hn => ?_⟩
 obtain ⟨g, e1, e2, e3⟩ := h2 (by dsimp only; have : l.length ≠ 0 := fun c => hn (List.length_eq_zero_iff.1 c); omega)
 exact ⟨g, e1, e2, fun j t hj => e3 j _ (by dsimp only; rw [List.getElem?_map, hj]; rfl)⟩
end
theorem opns_snoc (h : List Evt) (e : Evt) : opnsOf (h ++ [e]) = opnStep (opnsOf h) e := by unfold opnsOf; rw [List.foldl_append]; rfl
theorem opns_take {h : List Evt} {i : Nat} {e : Evt} (hk : h[i]? = some e) : opnsOf (h.take (i + 1)) = opnStep (opnsOf (h.take i)) e := by rw [List.take_add_one, hk]; exact opns_snoc _ _
theorem dropT_take {l : List ByteArray} {k : Nat} {t s : ByteArray} (hk : l[k]? = some t) : dropT (l.take (k + 1)) s = dropT (l.take k) s ++ (if eqT t s = true then [] else [t]) := by
 unfold dropT
 rw [List.take_add_one, hk, List.filter_append]
 congr 1
 by_cases c : eqT t s = true
 ·rw [if_pos c]; simp [c]
 ·rw [if_neg c]; simp [c]
theorem dropT_len' (l : List ByteArray) (s : ByteArray) : (dropT l s).length ≤ l.length := List.length_filter_le _ l
theorem opns_len (h : List Evt) : (opnsOf h).length ≤ h.length := by
 induction h using snocInd with
 | h0 => exact Nat.le_refl _
 | h1 l e ih =>
  rw [opns_snoc, List.length_append]
  obtain ⟨k, t, a, b, nm, ot⟩ := e
  show (opnStep (opnsOf l) (k, t, a, b, nm, ot)).length ≤ l.length + 1
  unfold opnStep
  dsimp only
  split
  ·rw [List.length_append, List.length_singleton]; omega
  ·split
   ·have : (dropT (opnsOf l) nm).length ≤ (opnsOf l).length := List.length_filter_le _ _
    omega
   ·omega
set_option maxHeartbeats 4000000 in
set_option maxRecDepth 20000 in
theorem ROpen_any {a : Option Addr} {h : List Evt} {w : World} (c : Nat) (hh : EvAt a h w) (hl : h.length ≤ 100000) : Calls Tryz.prog 112 #[.slice a h.length c] w fun en w' => ∃ v, en = .returned v ∧ OS w (opnsOf h) v w' := by
 obtain ⟨i0, hi, hz0, hz1, hz2⟩ := info_parts infoStr
 have H := Lib.hid hh
 clear hh
 go_enter Tryz.func112, Tryz.ntmps112
 go_wp2_with fail
 go_loopw [3, 4, 5, 6] (fun v ix _ _ wr => ∃ i : Nat, i ≤ h.length ∧ ix = .int .i64 i ∧ Hid (OS w (opnsOf (h.take i)) v wr)) (fun _ ix _ _ _ => h.length - (intOf ix).toNat)
 case atStart => exact ⟨0, by omega, rfl, OS.nil w⟩
 case round =>
  obtain ⟨i, hi2, rfl, HO⟩ := hrel
  by_cases hc : i < h.length
  ·have c1 : (i : Int) < h.length := by omega
   have c0 : (0 : Int) ≤ i := by omega
   obtain ⟨e, hk⟩ : ∃ e, h[i]? = some e := ⟨h[i], List.getElem?_eq_getElem hc⟩
   obtain ⟨b, off, rfl, hb0, hcs⟩ := H.out (by rintro rfl; simp at hc)
   have HS := Lib.hid (opns_take hk)
   have hL9 : (opnsOf (h.take i)).length ≤ 100000 := by have := opns_len (h.take i); rw [List.length_take] at this; omega
   obtain ⟨k, t, a1, b1, nm, ot⟩ := e
   have G0 : Hid (w.cell? ⟨b, off + i * 6, none⟩ = some (.int .i64 k)) := hcs i _ hk 0 _ rfl
   have G4 : Hid (w.cell? ⟨b, off + i * 6 + 4, none⟩ = some (.string nm)) := hcs i _ hk 4 _ rfl
   have g0 := cell_step G0.out HO.out.bel
   have g4 := cell_step G4.out HO.out.bel
   have HSZ := Lib.hid HO.out.bel.size
   obtain ⟨av, cv, rfl, hv⟩ := HO.out.cells
   clear hcs hk hc hv
   generalize opnsOf (h.take i) = L at *
   by_cases k7 : k = 7
   ·subst k7
    have HS2 : Hid (opnsOf (h.take (i + 1)) = L ++ [nm]) := HS.out
    clear HS
    go_wp2_with (at_builtin; refine wpList_app _ rfl (.tmp 19) (.tmp 25) 47 rfl w.heap.size 9 i0 _ 1 16 Tryz.underlying47 hi hz0 hz1 hz2 rfl (by decide) _ L.length (L.map Value.string) rfl (own_step HO.out.own (bAl (o := .cells #[.string nm] 9))) (some ⟨wr.heap.size, 0, none⟩) 1 1 [.string nm] rfl rfl new_cellsB (str1 nm) (by unfold maxLen; omega) (by omega) (by have := HSZ.out; simp; omega) ?_; intro v' w5 hown hgrow hat; have hO2 : Hid (OS w (opnsOf (h.take (i + 1))) v' w5) := (by unfold Hid; rw [HS2.out]; exact (HO.out.step (bAl (o := .cells #[.string nm] 9))).app hown hgrow); have g0 := cell_step G0.out hO2.out.bel; clear hown hgrow hat)
    exact ⟨⟨i + 1, by omega, by push_cast; rfl, hO2⟩, by simp [intOf]; omega⟩
   ·by_cases k8 : k = 8
    ·subst k8
     have HS2 : Hid (opnsOf (h.take (i + 1)) = dropT L nm) := HS.out
     clear HS k7
     have HT := Lib.hid HO.out.two
     go_wp2_with fail
     clear g0 g4
     go_loopw [5, 6] (fun v jx wr => ∃ j : Nat, j ≤ L.length ∧ jx = .int .i64 j ∧ Hid (OS2 w L (dropT (L.take j) nm) (.slice av L.length cv) v wr)) (fun _ jx _ => L.length - (intOf jx).toNat)
     case atStart => exact ⟨0, by omega, rfl, HT⟩
     case round =>
      clear HO HT HSZ
      obtain ⟨j, hj, rfl, HT⟩ := hrel
      have HSZ := Lib.hid HT.out.bel.size
      by_cases hc : j < L.length
      ·have c2 : (j : Int) < L.length := by omega
       have c3 : (0 : Int) ≤ j := by omega
       obtain ⟨s, hs⟩ : ∃ s, L[j]? = some s := ⟨L[j], List.getElem?_eq_getElem hc⟩
       obtain ⟨av3, cv3, e3, hv⟩ := HT.out.fst.cells
       obtain ⟨rfl, -, rfl⟩ : av = av3 ∧ True ∧ cv = cv3 := by injection e3 with q1 q2 q3; exact ⟨q1, trivial, q3⟩
       clear e3
       obtain ⟨bL, rfl, hbL, hLc⟩ := hv (by rintro rfl; simp at hc)
       have l0 := hLc j s hs
       have g4 := cell_step G4.out HT.out.bel
       have HD := Lib.hid (dropT_take (s := nm) hs)
       have hDl : (dropT (L.take j) nm).length ≤ 100000 := by have := dropT_len' (L.take j) nm; rw [List.length_take] at this; omega
       clear hLc hs hc
       by_cases he : (s.toList == nm.toList) = true
       ·have HD2 : Hid (dropT (L.take (j + 1)) nm = dropT (L.take j) nm) := by unfold Hid; rw [HD.out, if_pos (show eqT s nm = true from he), List.append_nil]
        clear HD
        go_upto_region 12 with fail
        go_quiet (fail)
        have HT3 := Lib.hid (HT.out.step (bDrewN (n := nq) (Below.refl _ _)))
        clear HT g4 l0
        go_wp2_with fail
        exact ⟨⟨j + 1, by omega, by push_cast; rfl, by rw [HD2.out]; exact HT3⟩, by simp [intOf]; omega⟩
       ·have he2 : (s.toList == nm.toList) = false := by simpa using he
        have HD2 : Hid (dropT (L.take (j + 1)) nm = dropT (L.take j) nm ++ [s]) := by unfold Hid; rw [HD.out, if_neg (show ¬ eqT s nm = true from he)]
        clear HD he
        generalize dropT (L.take j) nm = D at *
        go_upto_region 12 with fail
        go_quiet (fail)
        have HT3 := Lib.hid (HT.out.step (bDrewN (n := nq) (Below.refl _ _)))
        go_wp2_with (at_builtin; refine wpList_app _ rfl (.tmp 49) (.tmp 54) 47 rfl w.heap.size 9 i0 _ 1 16 Tryz.underlying47 hi hz0 hz1 hz2 rfl (by decide) _ D.length (D.map Value.string) rfl (own_step HT3.out.r2 (bAl (o := .cells #[.string s] 9))) (some ⟨(wr.drewN nq).heap.size, 0, none⟩) 1 1 [.string s] rfl rfl new_cellsB (str1 s) (by unfold maxLen; omega) (by omega) (by have := HSZ.out; simp; omega) ?_; intro v' w5 hown hgrow hat; have hO2 : Hid (OS2 w L (dropT (L.take (j + 1)) nm) (.slice (some ⟨bL, 0, none⟩) L.length cv) v' w5) := (by unfold Hid; rw [HD2.out]; exact (HT3.out.step (bAl (o := .cells #[.string s] 9))).app hown hgrow hat); clear hown hgrow hat)
        exact ⟨⟨j + 1, by omega, by push_cast; rfl, hO2⟩, by simp [intOf]; omega⟩
      ·obtain rfl : j = L.length := by omega
       have hO2 : Hid (OS w (opnsOf (h.take (i + 1))) u5 wr) := by have q := HT.out.snd; rw [List.take_of_length_le (Nat.le_refl _)] at q; unfold Hid; rw [HS2.out]; exact q
       clear hc hj
       go_wp2_with fail
       exact ⟨⟨i + 1, by omega, by push_cast; rfl, hO2⟩, by simp [intOf]; omega⟩
    ·have HS2 : Hid (opnsOf (h.take (i + 1)) = L) := by have q := HS.out; unfold opnStep at q; dsimp only at q; rw [if_neg k7, if_neg k8] at q; exact q
     clear HS
     go_wp2_with fail
     exact ⟨⟨i + 1, by omega, by push_cast; rfl, by rw [HS2.out]; exact HO⟩, by simp [intOf]; omega⟩
  ·obtain rfl : i = h.length := by omega
   have hO : Hid (OS w (opnsOf h) u3 wr) := by have q := HO.out; rw [List.take_of_length_le (Nat.le_refl _)] at q; exact q
   obtain ⟨a9, c9, e9, -⟩ := hO.out.cells
   subst e9
   clear hc
   go_wp2_with fail
   exact bodyPost_ret (v := .slice a9 (opnsOf h).length c9) (by simp only [results, Tryz.results112]; go_simp) rfl ⟨_, rfl, hO.out⟩
end Go.Proofs.YtmpilgkfbibhlaaGreatDoor
namespace Go.Proofs.YtmpilgkfbibhlaaGreatDoor
theorem dec_le : ∀ {k u : Nat}, 1 ≤ k → u < 10 ^ k → (Lib.decDigits u).length ≤ k
 | 0, _, h, _ => absurd h (by decide)
 | k + 1, u, _, h => by
  by_cases hu : u < 10
  ·rw [Lib.decDigits_one hu]; simp
  ·rw [dec_step hu]
   have hk : 1 ≤ k := by
    rcases Nat.eq_zero_or_pos k with rfl | hk
    ·simp at h; omega
    ·exact hk
   have := dec_le hk (u := u / 10) (by rw [Nat.pow_succ] at h; omega)
   simp only [List.length_append, List.length_cons, List.length_nil]
   omega
theorem itoa_cases (n : Int) : (∃ u : Nat, n = u ∧ Lib.itoa n = Lib.decDigits u) ∨ (∃ u : Nat, 1 ≤ u ∧ n = -(u : Int) ∧ Lib.itoa n = 45 :: Lib.decDigits u) := by
 rcases Int.lt_or_le n 0 with h | h
 ·obtain ⟨u, hu⟩ := Int.eq_ofNat_of_zero_le (show 0 ≤ -n by omega)
  have e : n = -(u : Int) := by omega
  exact .inr ⟨u, by omega, e, by rw [e]; exact Lib.itoa_neg u (by omega)⟩
 ·obtain ⟨u, hu⟩ := Int.eq_ofNat_of_zero_le h
  exact .inl ⟨u, hu, by rw [hu]; exact Lib.itoa_nonneg u⟩
theorem dec_head {u : Nat} {c : UInt8} {r : List UInt8} (h : Lib.decDigits u = c :: r) : 48 ≤ c.toNat ∧ c.toNat ≤ 57 := dec_plain u c (by rw [h]; exact List.mem_cons_self ..)
theorem itoa_len {n : Int} {k : Nat} (h1 : -(10 ^ k : Nat) < n) (h2 : n < (10 ^ k : Nat)) (hk : 1 ≤ k) : (Lib.itoa n).length ≤ k + 1 := by
 rcases itoa_cases n with ⟨u, e1, e2⟩ | ⟨u, -, e1, e2⟩
 ·rw [e2]; have := dec_le hk (u := u) (by omega); omega
 ·rw [e2]; have := dec_le hk (u := u) (by omega); simp only [List.length_cons]; omega
/-! strconv.ParseInt at a decimal number. -/
theorem pM_dec {M u : Nat} (hM : M ≤ 18446744073709551615) (hu : u ≤ M) (r : List UInt8) : Lib.parseUintM M 0 (Lib.decDigits u ++ r) = Lib.parseUintM M u r := by
 induction u using Nat.strongRecOn generalizing r with
 | ind u ih =>
  have h48 : ∀ d, d < 10 → (UInt8.ofNat (48 + d)).toNat = 48 + d := fun d hd => dig_nat hd
  by_cases h : u < 10
  ·rw [Lib.decDigits_one h, List.singleton_append, Lib.parseUintM, h48 u h]
   rw [if_pos ⟨by omega, by omega⟩, if_neg (by decide), if_neg (by omega)]
   congr 1; omega
  ·rw [dec_step h, List.append_assoc, ih (u / 10) (by omega) (by omega), List.singleton_append, Lib.parseUintM, h48 (u % 10) (by omega)]
   rw [if_pos ⟨by omega, by omega⟩, if_neg (by omega), if_neg (by omega)]
   congr 1; omega
theorem pU_dec {u : Nat} (hu : u ≤ 18446744073709551615) : Lib.parseUintB 64 (Lib.decDigits u) = .ok u := by
 unfold Lib.parseUintB
 rw [if_neg (dec_ne u)]
 have := pM_dec (M := 18446744073709551615) (by decide) hu []
 rw [List.append_nil] at this
 exact this
theorem parse_itoa {n : Int} (h1 : -9223372036854775808 ≤ n) (h2 : n ≤ 9223372036854775807) : Lib.parseIntB 64 (Lib.itoa n) = .ok n := by
 rcases itoa_cases n with ⟨u, e1, e2⟩ | ⟨u, hu, e1, e2⟩
 ·rw [e2]
  cases hd : Lib.decDigits u with
  | nil => exact absurd hd (dec_ne u)
  | cons c r =>
   have hc := dec_head hd
   unfold Lib.parseIntB
   have k1 : ¬ (c.toNat = 43 ∨ c.toNat = 45) := by omega
   have k2 : ¬ c.toNat = 45 := by omega
   simp only [if_neg k1]
   rw [← hd, pU_dec (by omega)]
   simp only [k2, not_false_eq_true, true_and, false_and, if_false]
   rw [if_neg (by show ¬ 9223372036854775808 ≤ u; omega)]
   rw [e1]
 ·rw [e2]
  unfold Lib.parseIntB
  have k2 : (45 : UInt8).toNat = 45 := rfl
  simp only [k2, or_true, if_true]
  rw [pU_dec (by omega)]
  simp only [not_true_eq_false, false_and, true_and, if_true, if_false]
  rw [if_neg (by show ¬ 9223372036854775808 < u; omega)]
  rw [e1]
def rd (l : List UInt8) : Option Int := match Lib.parseIntB 64 l with
 | .ok v => if Lib.itoa v = l then some v else none
 | _ => none
/-! The reference's Number. -/
def nvF (l : List UInt8) : Nat := l.foldl (fun s c => if 48 ≤ c.toNat ∧ c.toNat ≤ 57 then 10 * s + (c.toNat - 48) else s) 0
def sv (l : List UInt8) : Int := if l.head? = some 45 then -(nvF l : Int) else nvF l
def isN (l : List UInt8) : Bool := decide (l.length ≤ 14) && decide (Lib.itoa (sv l) = l)
/-! Spans. -/
end Go.Proofs.YtmpilgkfbibhlaaGreatDoor
namespace Go.Proofs.YtmpilgkfbibhlaaGreatDoor
open Sx Go.RowKit
theorem ba_inj {a b : ByteArray} (h : a.data.toList = b.data.toList) : a = b := by
 obtain ⟨⟨x⟩⟩ := a
 obtain ⟨⟨y⟩⟩ := b
 have h' : x = y := h
 rw [h']
theorem ba_nl {a b : ByteArray} (h : ¬ a = b) : ¬ a.toList = b.toList := fun e => h (ba_inj (by rwa [Lib.toList_data, Lib.toList_data] at e))
end Go.Proofs.YtmpilgkfbibhlaaGreatDoor
namespace Go.Proofs.YtmpilgkfbibhlaaGreatDoor
open Sx Go.RowKit
theorem ba_app (a b : List UInt8) : (ByteArray.mk a.toArray) ++ (ByteArray.mk b.toArray) = ⟨(a ++ b).toArray⟩ := ba_inj (by simp)
theorem dig_one {d : Nat} (h : d < 10) : Lib.decDigits d = [UInt8.ofNat (48 + d)] := Lib.decDigits_one h
set_option maxHeartbeats 1000000 in
set_option maxRecDepth 20000 in
theorem Digits_small (u : Nat) (h : u < 10) (w : World) : Calls Tryz.prog 123 #[.int .i64 (u : Int)] w fun e w' => e = .returned (.string ⟨(Lib.decDigits u).toArray⟩) ∧ Below w.heap.size w w' := by
 rw [dig_one h]
 have hc : u = 0 ∨ u = 1 ∨ u = 2 ∨ u = 3 ∨ u = 4 ∨ u = 5 ∨ u = 6 ∨ u = 7 ∨ u = 8 ∨ u = 9 := by omega
 rcases hc with rfl | rfl | rfl | rfl | rfl | rfl | rfl | rfl | rfl | rfl
 all_goals
  clear h
  go_enter Tryz.func123, Tryz.ntmps123
  go_wp2_with fail
  go_ret
  exact ⟨by first | rfl | decide +kernel, (by repeat' (first | exact Below.refl _ _ | assumption | apply bDrewN | apply bDrew | apply bAlloc | (refine bSet ?_ ?_ _) | (refine bStep ?_ (by assumption)) | omega | (simp <;> omega)))⟩
set_option maxHeartbeats 1000000 in
set_option maxRecDepth 20000 in
theorem Digits_nat : ∀ (u : Nat), u < 9223372036854775808 → ∀ w : World, Calls Tryz.prog 123 #[.int .i64 (u : Int)] w fun e w' => e = .returned (.string ⟨(Lib.decDigits u).toArray⟩) ∧ Below w.heap.size w w' := by
 intro u
 induction u using Nat.strongRecOn with
 | ind u ih =>
  intro hu w
  by_cases h : u < 10
  ·exact Digits_small u h w
  ·have C1 := ih (u / 10) (by omega) (by omega)
   have C2 := ih (u % 10) (by omega) (by omega)
   rw [dec_step h]
   rw [dig_one (show u % 10 < 10 by omega)] at C2
   have hl := dec_le (k := 19) (u := u / 10) (by decide) (by omega)
   have e1 : ((u / 10 : Nat) : Int) = (u : Int) / 10 := by omega
   have e2 : ((u % 10 : Nat) : Int) = (u : Int) % 10 := by omega
   rw [e1] at C1
   rw [e2] at C2
   have h1 : ¬ (u : Int) < 0 := by omega
   have h2 : 9 < (u : Int) := by omega
   generalize Lib.decDigits (u / 10) = x at *
   generalize UInt8.ofNat (48 + u % 10) = c at *
   have h3 : ¬ 9223372036854775807 < x.length + 1 := by omega
   have h4 : x.length + 1 ≤ 9223372036854775807 := by omega
   have K1 := Lib.hid C1
   have K2 := Lib.hid C2
   clear ih h hl C1 C2 e1 e2
   go_enter Tryz.func123, Tryz.ntmps123
   go_wp2_with (go_at_call 123; first
    | (with_reducible refine (K1.out _).mono ?_; rintro e w1 ⟨rfl, hb1⟩)
    | (with_reducible refine (K2.out _).mono ?_; rintro e w2 ⟨rfl, hb2⟩))
   go_ret
   exact ⟨by rw [← ba_app]; rfl, (by repeat' (first | exact Below.refl _ _ | assumption | apply bDrewN | apply bDrew | apply bAlloc | (refine bSet ?_ ?_ _) | (refine bStep ?_ (by assumption)) | omega | (simp <;> omega)))⟩
set_option maxHeartbeats 1000000 in
set_option maxRecDepth 20000 in
theorem Digits_any (n : Int) (h0 : -9223372036854775808 < n) (h1 : n ≤ 9223372036854775807) (w : World) : Calls Tryz.prog 123 #[.int .i64 n] w fun e w' => e = .returned (.string ⟨(Lib.itoa n).toArray⟩) ∧ Below w.heap.size w w' := by
 rcases itoa_cases n with ⟨u, rfl, e⟩ | ⟨u, hu, rfl, e⟩
 ·rw [e]; exact Digits_nat u (by omega) w
 ·rw [e]
  have C := Lib.hid (Digits_nat u (by omega))
  have h2 : -(u : Int) < 0 := by omega
  have e1 : IntKind.i64.wrap (u : Int) = u := Go.IntWalk.i64_in _ ⟨by omega, by omega⟩
  have hl := dec_le (k := 19) (u := u) (by decide) (by omega)
  generalize Lib.decDigits u = x at *
  have h3 : ¬ 9223372036854775807 < 1 + x.length := by omega
  have h4 : 1 + x.length ≤ 9223372036854775807 := by omega
  clear e hl
  go_enter Tryz.func123, Tryz.ntmps123
  go_wp2_with (go_at_call 123; refine (C.out _).mono ?_; rintro e w1 ⟨rfl, hb1⟩)
  go_ret
  exact ⟨by rw [show (45 :: x) = [45] ++ x from rfl, ← ba_app]; rfl, (by repeat' (first | exact Below.refl _ _ | assumption | apply bDrewN | apply bDrew | apply bAlloc | (refine bSet ?_ ?_ _) | (refine bStep ?_ (by assumption)) | omega | (simp <;> omega)))⟩
end Go.Proofs.YtmpilgkfbibhlaaGreatDoor
namespace Go.Proofs.YtmpilgkfbibhlaaGreatDoor
open Go.RowKit Mr
theorem mods_snoc (name : ByteArray) (h : List Evt) (e : Evt) : modsOf name (h ++ [e]) = modStep name (modsOf name h) e := by unfold modsOf; rw [List.foldl_append]; rfl
theorem mods_take {name : ByteArray} {h : List Evt} {i : Nat} {e : Evt} (hk : h[i]? = some e) : modsOf name (h.take (i + 1)) = modStep name (modsOf name (h.take i)) e := by rw [List.take_add_one, hk]; exact mods_snoc _ _ _
def Few (h : List Evt) : Prop := ∀ e ∈ h, e.1 = 1 → e.2.2.2.1 ≤ 32
theorem mods_len (name : ByteArray) (h : List Evt) (hf : Few h) : (modsOf name h).length ≤ 32 * h.length := by
 induction h using snocInd with
 | h0 => exact Nat.le_refl _
 | h1 l e ih =>
  have ih2 := ih fun e' he' => hf e' (List.mem_append_left _ he')
  have h32 := hf e (by simp)
  rw [mods_snoc, List.length_append]
  obtain ⟨k, t, a, b, nm, ot⟩ := e
  show (modStep name (modsOf name l) (k, t, a, b, nm, ot)).length ≤ 32 * (l.length + 1)
  unfold modStep
  dsimp only at h32 ⊢
  split
  ·rename_i c
   have := h32 c
   simp only [List.length_append, List.length_map, List.length_range]; omega
  ·split
   ·rw [List.length_append, List.length_singleton]; omega
   ·split
    ·have : (dropT (modsOf name l) nm).length ≤ (modsOf name l).length := List.length_filter_le _ _
     omega
    ·omega
theorem Few.take {h : List Evt} (hf : Few h) (i : Nat) : Few (h.take i) := fun e he => hf e (List.mem_of_mem_take he)
set_option maxHeartbeats 4000000 in
set_option maxRecDepth 20000 in
theorem RModules_any {a : Option Addr} {h : List Evt} {w : World} (c : Nat) (name : ByteArray) (hh : EvAt a h w) (hl : h.length ≤ 10000) (hf : Few h) (hnm : name.size ≤ 1000) : Calls Tryz.prog 110 #[.string name, .slice a h.length c] w fun en w' => ∃ v, en = .returned v ∧ OS w (modsOf name h) v w' := by
 obtain ⟨i0, hi, hz0, hz1, hz2⟩ := info_parts infoStr
 have H := Lib.hid hh
 have HNM := Lib.hid hnm
 have HF := Lib.hid hf
 clear hh hnm hf
 go_enter Tryz.func110, Tryz.ntmps110
 go_wp2_with fail
 go_loopw [5, 6, 7, 8, 9] (fun v ix _ _ _ wr => ∃ i : Nat, i ≤ h.length ∧ ix = .int .i64 i ∧ Hid (OS w (modsOf name (h.take i)) v wr)) (fun _ ix _ _ _ _ => h.length - (intOf ix).toNat)
 case atStart => exact ⟨0, by omega, rfl, OS.nil w⟩
 case round =>
  obtain ⟨i, hi2, rfl, HO⟩ := hrel
  by_cases hc : i < h.length
  ·have c1 : (i : Int) < h.length := by omega
   have c0 : (0 : Int) ≤ i := by omega
   obtain ⟨e, hk⟩ : ∃ e, h[i]? = some e := ⟨h[i], List.getElem?_eq_getElem hc⟩
   obtain ⟨b, off, rfl, hb0, hcs⟩ := H.out (by rintro rfl; simp at hc)
   have HS := Lib.hid (mods_take (name := name) hk)
   have hL9 : (modsOf name (h.take i)).length ≤ 400000 := by have := mods_len name (h.take i) (HF.out.take i); rw [List.length_take] at this; omega
   have h32 := HF.out e (List.mem_of_getElem? hk)
   obtain ⟨k, t, a1, b1, nm, ot⟩ := e
   have G0 : Hid (w.cell? ⟨b, off + i * 6, none⟩ = some (.int .i64 k)) := hcs i _ hk 0 _ rfl
   have G3 : Hid (w.cell? ⟨b, off + i * 6 + 3, none⟩ = some (.int .i64 b1)) := hcs i _ hk 3 _ rfl
   have G4 : Hid (w.cell? ⟨b, off + i * 6 + 4, none⟩ = some (.string nm)) := hcs i _ hk 4 _ rfl
   have g0 := cell_step G0.out HO.out.bel
   have g3 := cell_step G3.out HO.out.bel
   have g4 := cell_step G4.out HO.out.bel
   have HSZ := Lib.hid HO.out.bel.size
   obtain ⟨av, cv, rfl, hv⟩ := HO.out.cells
   clear hcs hk hc hv
   generalize modsOf name (h.take i) = L at *
   by_cases k1 : k = 1
   ·subst k1
    have h33 := h32 rfl
    dsimp only at h33
    clear h32
    have HS2 : Hid (modsOf name (h.take (i + 1)) = L ++ (List.range b1.toNat).map (modN name)) := HS.out
    clear HS
    go_wp2_with fail
    clear g0 g3 g4
    go_loopw [5, 7] (fun v jx wr => ∃ j : Nat, j ≤ b1.toNat ∧ jx = .int .i64 j ∧ Hid (OS w (L ++ modL name j) v wr)) (fun _ jx _ => b1.toNat - (intOf jx).toNat)
    case atStart => exact ⟨0, by omega, rfl, by unfold modL; simpa using HO⟩
    case round =>
     clear HO HSZ
     obtain ⟨j, hj, rfl, HO⟩ := hrel
     have g3 := cell_step G3.out HO.out.bel
     obtain ⟨av2, cv2, rfl, hv⟩ := HO.out.cells
     clear hv
     have HSZ := Lib.hid HO.out.bel.size
     by_cases hc : j < b1.toNat
     ·have c2 : (j : Int) < b1 := by omega
      have HIC := Lib.hid (fun w => Digits_any (j : Int) (by omega) (by omega) w)
      clear hc
      have hty : (⟨(Lib.itoa (j : Int)).toArray⟩ : ByteArray).size ≤ 40 := by
       rw [Lib.size_eq]
       exact itoaS_len j (by omega)
      obtain ⟨ty, hty2⟩ : ∃ ty : ByteArray, ⟨(Lib.itoa (j : Int)).toArray⟩ = ty := ⟨_, rfl⟩
      have HSN : Hid (L ++ modL name j ++ [modN name j] = L ++ modL name (j + 1)) := by unfold Hid; rw [← modL_snoc, List.append_assoc]
      have hmn : modN name j = (name ++ ⟨#[58]⟩) ++ ⟨(Lib.itoa (j : Int)).toArray⟩ := rfl
      rw [hty2] at HIC hty hmn
      have q1 : ¬ 9223372036854775807 < name.size + 1 := by have := HNM.out; omega
      obtain ⟨t1, ht1⟩ : ∃ t1 : ByteArray, name ++ ⟨#[58]⟩ = t1 := ⟨_, rfl⟩
      have st : t1.size = name.size + 1 := by rw [← ht1]; simp; rfl
      have q2 : ¬ 9223372036854775807 < t1.size + ty.size := by have := HNM.out; omega
      rw [ht1] at hmn
      have hLj : (L ++ modL name j).length ≤ 500000 := by rw [List.length_append, modL_len]; omega
      generalize modN name j = t3 at *
      have ht3 := hmn.symm
      clear hmn hty2 st hty
      generalize L ++ modL name j = M at *
      go_upto_region 9 with (first | (go_at_call 123; refine (HIC.out _).mono ?_; rintro e w4 ⟨rfl, hb4⟩; have HO4 := Lib.hid (HO.out.step hb4); have HSZ4 := Lib.hid HO4.out.bel.size) | (at_builtin; refine wpList_app _ rfl (.tmp 32) (.tmp 38) 47 rfl w.heap.size 9 i0 _ 1 16 Tryz.underlying47 hi hz0 hz1 hz2 rfl (by decide) _ M.length (M.map Value.string) rfl (own_step HO4.out.own (bAl (o := .cells #[.string t3] 9))) (some ⟨w4.heap.size, 0, none⟩) 1 1 [.string t3] rfl rfl new_cellsB (str1 t3) (by unfold maxLen; omega) (by omega) (by have := HSZ4.out; simp; omega) ?_; intro v' w5 hown hgrow hat; have hO2 : Hid (OS w (L ++ modL name (j + 1)) v' w5) := (by unfold Hid; rw [← HSN.out]; exact (HO4.out.step (bAl (o := .cells #[.string t3] 9))).app hown hgrow); clear hown hgrow hat))
      go_wp2_with fail
      exact ⟨⟨j + 1, by omega, by push_cast; rfl, hO2⟩, by simp [intOf]; omega⟩
     ·obtain rfl : j = b1.toNat := by omega
      have c2 : ¬ (b1.toNat : Int) < b1 := by omega
      have hO2 : Hid (OS w (modsOf name (h.take (i + 1))) (.slice av2 (L ++ modL name b1.toNat).length cv2) wr) := by unfold Hid; rw [HS2.out]; exact HO.out
      clear hc hj
      go_wp2_with fail
      exact ⟨⟨i + 1, by omega, by push_cast; rfl, hO2⟩, by simp [intOf]; omega⟩
   ·clear h32
    by_cases k5 : k = 5
    ·subst k5
     have HS2 : Hid (modsOf name (h.take (i + 1)) = L ++ [nm]) := HS.out
     clear HS k1
     go_wp2_with (at_builtin; refine wpList_app _ rfl (.tmp 42) (.tmp 48) 47 rfl w.heap.size 9 i0 _ 1 16 Tryz.underlying47 hi hz0 hz1 hz2 rfl (by decide) _ L.length (L.map Value.string) rfl (own_step HO.out.own (bAl (o := .cells #[.string nm] 9))) (some ⟨wr.heap.size, 0, none⟩) 1 1 [.string nm] rfl rfl new_cellsB (str1 nm) (by unfold maxLen; omega) (by omega) (by have := HSZ.out; simp; omega) ?_; intro v' w5 hown hgrow hat; have hO2 : Hid (OS w (modsOf name (h.take (i + 1))) v' w5) := (by unfold Hid; rw [HS2.out]; exact (HO.out.step (bAl (o := .cells #[.string nm] 9))).app hown hgrow); have g0 := cell_step G0.out hO2.out.bel; clear hown hgrow hat)
     exact ⟨⟨i + 1, by omega, by push_cast; rfl, hO2⟩, by simp [intOf]; omega⟩
    ·by_cases k6 : k = 6
     ·subst k6
      have HS2 : Hid (modsOf name (h.take (i + 1)) = dropT L nm) := HS.out
      clear HS k1 k5
      have HT := Lib.hid HO.out.two
      go_wp2_with fail
      clear g0 g3 g4
      go_loopw [8, 9] (fun v jx wr => ∃ j : Nat, j ≤ L.length ∧ jx = .int .i64 j ∧ Hid (OS2 w L (dropT (L.take j) nm) (.slice av L.length cv) v wr)) (fun _ jx _ => L.length - (intOf jx).toNat)
      case atStart => exact ⟨0, by omega, rfl, HT⟩
      case round =>
       clear HO HT HSZ
       obtain ⟨j, hj, rfl, HT⟩ := hrel
       have HSZ := Lib.hid HT.out.bel.size
       by_cases hc : j < L.length
       ·have c2 : (j : Int) < L.length := by omega
        have c3 : (0 : Int) ≤ j := by omega
        obtain ⟨s, hs⟩ : ∃ s, L[j]? = some s := ⟨L[j], List.getElem?_eq_getElem hc⟩
        obtain ⟨av3, cv3, e3, hv⟩ := HT.out.fst.cells
        obtain ⟨rfl, -, rfl⟩ : av = av3 ∧ True ∧ cv = cv3 := by injection e3 with q1 q2 q3; exact ⟨q1, trivial, q3⟩
        clear e3
        obtain ⟨bL, rfl, hbL, hLc⟩ := hv (by rintro rfl; simp at hc)
        have l0 := hLc j s hs
        have g4 := cell_step G4.out HT.out.bel
        have HD := Lib.hid (dropT_take (s := nm) hs)
        have hDl : (dropT (L.take j) nm).length ≤ 400000 := by have := dropT_len' (L.take j) nm; rw [List.length_take] at this; omega
        clear hLc hs hc
        by_cases he : (s.toList == nm.toList) = true
        ·have HD2 : Hid (dropT (L.take (j + 1)) nm = dropT (L.take j) nm) := by unfold Hid; rw [HD.out, if_pos (show eqT s nm = true from he), List.append_nil]
         clear HD
         go_upto_region 18 with fail
         go_quiet (fail)
         have HT3 := Lib.hid (HT.out.step (bDrewN (n := nq) (Below.refl _ _)))
         clear HT g4 l0
         go_wp2_with fail
         exact ⟨⟨j + 1, by omega, by push_cast; rfl, by rw [HD2.out]; exact HT3⟩, by simp [intOf]; omega⟩
        ·have he2 : (s.toList == nm.toList) = false := by simpa using he
         have HD2 : Hid (dropT (L.take (j + 1)) nm = dropT (L.take j) nm ++ [s]) := by unfold Hid; rw [HD.out, if_neg (show ¬ eqT s nm = true from he)]
         clear HD he
         generalize dropT (L.take j) nm = D at *
         go_upto_region 18 with fail
         go_quiet (fail)
         have HT3 := Lib.hid (HT.out.step (bDrewN (n := nq) (Below.refl _ _)))
         go_wp2_with (at_builtin; refine wpList_app _ rfl (.tmp 68) (.tmp 73) 47 rfl w.heap.size 9 i0 _ 1 16 Tryz.underlying47 hi hz0 hz1 hz2 rfl (by decide) _ D.length (D.map Value.string) rfl (own_step HT3.out.r2 (bAl (o := .cells #[.string s] 9))) (some ⟨(wr.drewN nq).heap.size, 0, none⟩) 1 1 [.string s] rfl rfl new_cellsB (str1 s) (by unfold maxLen; omega) (by omega) (by have := HSZ.out; simp; omega) ?_; intro v' w5 hown hgrow hat; have hO2 : Hid (OS2 w L (dropT (L.take (j + 1)) nm) (.slice (some ⟨bL, 0, none⟩) L.length cv) v' w5) := (by unfold Hid; rw [HD2.out]; exact (HT3.out.step (bAl (o := .cells #[.string s] 9))).app hown hgrow hat); clear hown hgrow hat)
         exact ⟨⟨j + 1, by omega, by push_cast; rfl, hO2⟩, by simp [intOf]; omega⟩
       ·obtain rfl : j = L.length := by omega
        have hO2 : Hid (OS w (modsOf name (h.take (i + 1))) u8 wr) := by have q := HT.out.snd; rw [List.take_of_length_le (Nat.le_refl _)] at q; unfold Hid; rw [HS2.out]; exact q
        clear hc hj
        go_wp2_with fail
        exact ⟨⟨i + 1, by omega, by push_cast; rfl, hO2⟩, by simp [intOf]; omega⟩
     ·have HS2 : Hid (modsOf name (h.take (i + 1)) = L) := by have q := HS.out; unfold modStep at q; dsimp only at q; rw [if_neg k1, if_neg k5, if_neg k6] at q; exact q
      clear HS
      go_wp2_with fail
      exact ⟨⟨i + 1, by omega, by push_cast; rfl, by rw [HS2.out]; exact HO⟩, by simp [intOf]; omega⟩
  ·obtain rfl : i = h.length := by omega
   have hO : Hid (OS w (modsOf name h) u5 wr) := by have q := HO.out; rw [List.take_of_length_le (Nat.le_refl _)] at q; exact q
   obtain ⟨a9, c9, e9, -⟩ := hO.out.cells
   subst e9
   clear hc
   go_wp2_with fail
   exact bodyPost_ret (v := .slice a9 (modsOf name h).length c9) (by simp only [results, Tryz.results110]; go_simp) rfl ⟨_, rfl, hO.out⟩
end Go.Proofs.YtmpilgkfbibhlaaGreatDoor
