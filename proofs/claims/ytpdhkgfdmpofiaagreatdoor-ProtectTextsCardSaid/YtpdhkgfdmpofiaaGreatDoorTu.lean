/-
  Parse of package protect.
-/
import Derived.Test.YtpdhkgfdmpofiaaGreatDoorTq
set_option linter.unusedSimpArgs false
set_option linter.unusedVariables false
namespace Go.Proofs.YtpdhkgfdmpofiaaGreatDoor
open Sx Go.RowKit
def zN : Nat → Int := fun _ => 0
/-- What Parse of the program holds on to: the result's box, the words, the array of numbers. -/
structure PS (w : World) (zs : List ByteArray) (X : Nat → Int) (W : World) : Prop where
  bel : Below w.heap.size w W
  rb : W.heap[w.heap.size]? = some (gObj zN)
  sb : W.heap[w.heap.size + 1]? = some (.cells (zs.map Value.string).toArray 9 (0, 0))
  ab : W.heap[w.heap.size + 2]? = some (aObj X)
section
variable {w W w2 : World} {zs : List ByteArray} {X : Nat → Int}
theorem PS.step (h : PS w zs X W) (hb : Below W.heap.size W w2) : PS w zs X w2 := ⟨bStep h.bel hb, blk_step h.rb hb, blk_step h.sb hb, blk_step h.ab hb⟩
theorem PS.put (h : PS w zs X W) {k : Nat} (hk : k < 22) (v : Int) : PS w zs (updF X k v) (W.setCell ⟨w.heap.size + 2, k, none⟩ (.int .i64 v)) :=
  ⟨h.bel.setCell (p := ⟨w.heap.size + 2, k, none⟩) (by show w.heap.size ≤ w.heap.size + 2; omega) _, blk_set_other h.rb (by show w.heap.size ≠ w.heap.size + 2; omega), blk_set_other h.sb (by show w.heap.size + 1 ≠ w.heap.size + 2; omega), aset h.ab hk v⟩
theorem PS.word (h : PS w zs X W) {k : Nat} (hk : k < zs.length) : W.cell? ⟨w.heap.size + 1, k, none⟩ = some (.string zs[k]) := blk_cell h.sb (by simp [hk])
end
/-- The same, with the guard that is being filled. -/
structure QS (w : World) (zs : List ByteArray) (X : Nat → Int) (G a : Nat) (W : World) : Prop where
  ps : PS w zs X W
  gb : W.heap[G]? = some (gObj (fillN X a))
  hG : w.heap.size + 3 ≤ G
theorem PS_start {w : World} {zs : List ByteArray} : PS w zs zN (((w.alloc (gObj zN)).alloc (.cells (zs.map Value.string).toArray 9)).alloc (aObj zN)) := by
  refine ⟨bAlloc (bAlloc (bAlloc (Below.refl _ _) _) _) _, blk_alloc (blk_alloc (blk_new w _)), blk_alloc ?_, ?_⟩
  · have := blk_new (w.alloc (gObj zN)) (.cells (zs.map Value.string).toArray 9)
    simpa using this
  · have := blk_new ((w.alloc (gObj zN)).alloc (.cells (zs.map Value.string).toArray 9)) (aObj zN)
    simpa using this
section
variable {w W w2 : World} {zs : List ByteArray} {X : Nat → Int} {G a : Nat}
theorem QS.step (h : QS w zs X G a W) (hb : Below W.heap.size W w2) : QS w zs X G a w2 := ⟨h.ps.step hb, blk_step h.gb hb, h.hG⟩
theorem QS.start (h : PS w zs X W) : QS w zs X W.heap.size 6 ((W.alloc (gObj zN)).setCells W.heap.size 0 [.int .i64 (X 0), .int .i64 (X 1), .int .i64 (X 2), .int .i64 (X 3), .int .i64 (X 4), .int .i64 (X 5), .int .i64 0, .int .i64 0, .int .i64 0, .int .i64 0, .int .i64 0, .int .i64 0, .int .i64 0, .int .i64 0, .int .i64 0, .int .i64 0, .int .i64 0, .int .i64 0, .int .i64 (X 18), .int .i64 (X 19), .int .i64 (X 20), .int .i64 (X 21)]) := by
  have h2 := h.step (bAl'' (o := gObj zN))
  have hl := blk_lt h.ab
  have hne : w.heap.size + 3 ≤ W.heap.size := by omega
  exact ⟨⟨bSetCells _ _ h2.bel (by omega), setCells_other _ _ h2.rb (by omega), setCells_other _ _ h2.sb (by omega), setCells_other _ _ h2.ab (by omega)⟩, gstore (n := fillN X 6) (blk_new W (gObj zN)), hne⟩
theorem QS.copy (h : QS w zs X G 6 W) : QS w zs X G 11 (W.setCells G 6 [.int .i64 (X 6), .int .i64 (X 7), .int .i64 (X 8), .int .i64 (X 9), .int .i64 (X 10)]) := by
  have hne := h.hG
  exact ⟨⟨bSetCells _ _ h.ps.bel (by omega), setCells_other _ _ h.ps.rb (by omega), setCells_other _ _ h.ps.sb (by omega), setCells_other _ _ h.ps.ab (by omega)⟩, fill_copy h.gb, hne⟩
theorem QS.next (h : QS w zs X G a W) (ha : a < 18) : QS w zs X G (a + 1) (W.setCell ⟨G, a, none⟩ (.int .i64 (X a))) := by
  have hne := h.hG
  refine ⟨⟨h.ps.bel.setCell (p := ⟨G, a, none⟩) (by show w.heap.size ≤ G; omega) _, blk_set_other h.ps.rb (by show w.heap.size ≠ G; omega), blk_set_other h.ps.sb (by show w.heap.size + 1 ≠ G; omega), blk_set_other h.ps.ab (by show w.heap.size + 2 ≠ G; omega)⟩, ?_, hne⟩
  have := gset h.gb (show a < 22 by omega) (X a)
  rw [fill_next X ha] at this
  exact this
theorem QS.src (h : QS w zs X G a W) : ∀ j v, ([.int .i64 (X 6), .int .i64 (X 7), .int .i64 (X 8), .int .i64 (X 9), .int .i64 (X 10)] : List Value)[j]? = some v → W.cell? ((⟨w.heap.size + 2, 6, none⟩ : Addr).add j) = some v := fun j v hv => by
  have hj : j < 5 := (List.getElem?_eq_some_iff.1 hv).1
  rw [Addr.add_mid, acells h.ps.ab (show 6 + j < 22 by omega)]
  have hc : j = 0 ∨ j = 1 ∨ j = 2 ∨ j = 3 ∨ j = 4 := by omega
  rcases hc with rfl | rfl | rfl | rfl | rfl <;> exact hv
end
theorem zs_get {s : ByteArray} {k : Nat} (hk : k < (pcz s).length) : (spl s.data.toList).getD k [] = (pcz s)[k].data.toList := by
  rw [← pcz_spl, List.getD_eq_getElem?_getD, List.getElem?_map, List.getElem?_eq_getElem hk]
  rfl
theorem txS_str {n : Nat → Int} {s : ByteArray} (hk : chkR n = 0) (h : (txS n).1 = s) : gTxt (gL n) = s.data.toList := by
  rw [txS_ok hk] at h
  have := congrArg (fun b : ByteArray => b.data.toList) h
  simpa using this
set_option maxHeartbeats 4000000 in
set_option maxRecDepth 20000 in
theorem PParse_any (s : ByteArray) (w : World) (hs : s.size ≤ 10000) (hG : Glob0 w) : Calls Tryz.prog 7 #[.string s] w fun e w' => e = .returned (.tuple #[.agg #[.int .i64 (paN s.data.toList 0), .int .i64 (paN s.data.toList 1), .int .i64 (paN s.data.toList 2), .int .i64 (paN s.data.toList 3), .int .i64 (paN s.data.toList 4), .int .i64 (paN s.data.toList 5), .int .i64 (paN s.data.toList 6), .int .i64 (paN s.data.toList 7), .int .i64 (paN s.data.toList 8), .int .i64 (paN s.data.toList 9), .int .i64 (paN s.data.toList 10), .int .i64 (paN s.data.toList 11), .int .i64 (paN s.data.toList 12), .int .i64 (paN s.data.toList 13), .int .i64 (paN s.data.toList 14), .int .i64 (paN s.data.toList 15), .int .i64 (paN s.data.toList 16), .int .i64 (paN s.data.toList 17), .int .i64 (paN s.data.toList 18), .int .i64 (paN s.data.toList 19), .int .i64 (paN s.data.toList 20), .int .i64 (paN s.data.toList 21)], .int .i64 (paE s.data.toList)]) ∧ Below w.heap.size w w' := by
  have CS := Lib.hid (fun W hG => split_any s W (by omega) hG)
  have HG := Lib.hid hG
  have hmem : Hid (∀ z ∈ pcz s, z.size ≤ 10000) := fun z hz => by
    have h1 : z.data.toList ∈ spl s.data.toList := by rw [← pcz_spl]; exact List.mem_map.2 ⟨z, hz, rfl⟩
    have h2 := join_mem h1
    rw [spl_join, ← Lib.size_eq, ← Lib.size_eq] at h2
    omega
  have hgt := Lib.hid (fun k hk => zs_get (s := s) (k := k) hk)
  have hln : (spl s.data.toList).length = (pcz s).length := by rw [← pcz_spl, List.length_map]
  have B0 := Lib.hid (blk_new w (gObj zN))
  clear hG hs
  by_cases h23 : (pcz s).length = 23
  · have HNO := Lib.hid (fun (i : Nat) (hi : i < 22) (h : ∀ u, Lib.parseIntB 64 ((spl s.data.toList).getD (i + 1) []) ≠ .ok u) => pa_none (parG_word (ok := okG2) (l := s.data.toList) okG2_sm hi h))
    have HRD := Lib.hid (fun (X : Nat → Int) (hX : ∀ i, i < 22 → Lib.parseIntB 64 ((spl s.data.toList).getD (i + 1) []) = .ok (X i)) (hn : ¬ (chkR X = 0 ∧ gTxt (gL X) = s.data.toList)) => pa_none (parG_read (ok := okG2) (l := s.data.toList) okG2_sm (gL_len X) (fun i hi => by rw [gL_get X hi]; exact hX i hi) (fun h => hn ⟨okG2_gL.1 h.1, h.2⟩)))
    have hz : (pcz s).length = 23 := h23
    have HST := Lib.hid (fun (n : Nat → Int) (h1 : chkR n = 0) (h2 : (txS n).1 = s) => txS_str h1 h2)
    obtain ⟨l, hl⟩ : ∃ l, s.data.toList = l := ⟨_, rfl⟩
    rw [hl] at HNO HRD hgt ⊢
    simp only [hl] at HST
    rw [hz] at CS
    generalize pcz s = zs at *
    have P0 := Lib.hid (PS_start (w := w) (zs := zs))
    have HZ := Lib.hid hz
    have HL := Lib.hid hl
    clear hln h23 hz hl B0
    go_enter Tryz.func7, Tryz.ntmps7
    go_wp2_with (go_at_call 21; refine (CS.out _ (gstep HG.out (by repeat' (first | exact Below.refl _ _ | assumption | apply bDrewN | apply bDrew | apply bAlloc | (refine bSet ?_ ?_ _) | (refine bStep ?_ (by assumption)) | omega | (simp <;> omega))))).mono ?_; rintro e w1 ⟨rfl, rfl⟩)
    clear CS
    go_loopw [6, 7, 8, 19] (fun _ _ _ i wr => ∃ (k : Nat) (X : Nat → Int), k ≤ 22 ∧ i = .int .i64 k ∧ Hid (∀ j, j < k → Lib.parseIntB 64 ((spl l).getD (j + 1) []) = .ok (X j)) ∧ Hid (PS w zs X wr)) (fun _ _ _ i _ => 22 - (intOf i).toNat)
    case atStart => exact ⟨0, zN, by omega, rfl, (fun j hj => absurd hj (by omega)), P0⟩
    case round =>
      obtain ⟨k, X, hk, rfl, HX, P1⟩ := hrel
      clear P0
      have P0 := P1
      clear P1
      have i1 : (0 : Int) ≤ (k : Int) := by omega
      by_cases hlt : k < 22
      · have hlt2 : (k : Int) < 22 := by omega
        have hlt3 : (k : Int) + 1 < 23 := by omega
        have hkz : k + 1 < zs.length := by rw [HZ.out]; omega
        have wz := P0.out.word hkz
        have wl := cell_lt wz
        have hgk := hgt.out (k + 1) hkz
        have hsz := hmem.out zs[k + 1] (List.getElem_mem hkz)
        have CP := Lib.hid (fun W hG => parse_any zs[k + 1] W (by omega) hG)
        generalize zs[k + 1] = z at *
        have KB := Lib.hid P0.out.bel
        by_cases hx : ∃ v, Lib.parseIntB 64 z.data.toList = .ok v
        · obtain ⟨v, hv⟩ := hx
          have CP2 : Hid (∀ W, GlobP W → Calls Tryz.prog 22 #[.string z, .int .i64 10, .int .i64 64] W fun e w' => e = .returned (.tuple #[.int .i64 v, .nilIface]) ∧ Below W.heap.size W w') := fun W hG => (CP.out W hG).mono fun e w' h => by
            obtain ⟨⟨u, x, rfl, hu⟩, hb⟩ := h
            rcases hu with ⟨h1, rfl⟩ | ⟨h1, -⟩
            · rw [hv] at h1
              injection h1 with h1
              subst h1
              exact ⟨rfl, hb⟩
            · exact absurd hv (h1 v)
          have HX2 : Hid (∀ j, j < k + 1 → Lib.parseIntB 64 ((spl l).getD (j + 1) []) = .ok (updF X k v j)) := fun j hj => by
            by_cases c : j = k
            · subst c
              rw [hgk, updF_at]
              exact hv
            · rw [updF_ne c]
              exact HX.out j (by omega)
          clear CP hv hgk HX hsz
          go_wp2_with (go_at_call 22; refine (CP2.out _ (gstep HG.out KB.out).1).mono ?_; rintro e w4 ⟨rfl, hb4⟩; replace P0 := Lib.hid (P0.out.step hb4); have ac := acells P0.out.ab (show k < 22 by omega); have af := blk_free (o := k) P0.out.ab; have al := blk_lt P0.out.ab)
          go_roundw
          case rel => first | exact ⟨k + 1, updF X k v, by omega, by push_cast; rfl, HX2, P0.out.put (show k < 22 by omega) v⟩ | ((repeat apply Exists.intro); exact ⟨⟨k + 1, updF X k v, by omega, by push_cast; rfl, HX2, P0.out.put (show k < 22 by omega) v⟩, rfl⟩)
          case measure => (simp [intOf]; omega)
        · have CP2 : Hid (∀ W, GlobP W → Calls Tryz.prog 22 #[.string z, .int .i64 10, .int .i64 64] W fun e w' => (∃ v t p, e = .returned (.tuple #[.int .i64 v, .iface t p])) ∧ Below W.heap.size W w') := fun W hG => (CP.out W hG).mono fun e w' h => by
            obtain ⟨⟨u, x, rfl, hu⟩, hb⟩ := h
            rcases hu with ⟨h1, rfl⟩ | ⟨h1, -, -, t, p, rfl⟩
            · exact absurd ⟨u, h1⟩ hx
            · exact ⟨⟨u, t, p, rfl⟩, hb⟩
          have HN := Lib.hid (HNO.out k hlt (fun u hu => hx ⟨u, by rw [← hgk]; exact hu⟩))
          clear CP hx hgk HX hsz HNO HRD
          go_wp2_with (first
            | (go_at_call 22; refine (CP2.out _ (gstep HG.out KB.out).1).mono ?_; rintro e w4 ⟨⟨v, t, p, rfl⟩, hb4⟩; replace P0 := Lib.hid (P0.out.step hb4))
            | (refine wpList_store_mid rfl 25 (.tmp 2) (.tmp 33) rfl w.heap.size 0 #[.int .i64 0, .int .i64 0, .int .i64 0, .int .i64 0, .int .i64 0, .int .i64 0, .int .i64 0, .int .i64 0, .int .i64 0, .int .i64 0, .int .i64 0, .int .i64 0, .int .i64 0, .int .i64 0, .int .i64 0, .int .i64 0, .int .i64 0, .int .i64 0, .int .i64 0, .int .i64 0, .int .i64 0, .int .i64 0] rfl rfl (gthere P0.out.rb) gsize (gone zN) ?_))
          have hR := gstore (n := zN) P0.out.rb
          exact bodyPost_ret (v := .tuple #[.agg #[.int .i64 0, .int .i64 0, .int .i64 0, .int .i64 0, .int .i64 0, .int .i64 0, .int .i64 0, .int .i64 0, .int .i64 0, .int .i64 0, .int .i64 0, .int .i64 0, .int .i64 0, .int .i64 0, .int .i64 0, .int .i64 0, .int .i64 0, .int .i64 0, .int .i64 0, .int .i64 0, .int .i64 0, .int .i64 0], .int .i64 8]) (res_cell Tryz.results7 rfl (gload hR) rfl) rfl ⟨by rw [HN.out.1, HN.out.2], bSetCells _ _ P0.out.bel (Nat.le_refl _)⟩
      · obtain rfl : k = 22 := by omega
        replace HRD := Lib.hid (HRD.out X HX.out)
        clear hlt hk i1 HX HNO hmem hgt
        obtain ⟨a0, a1, a2, a3, a4, a5, a18, a19, a20, a21⟩ : wr.cell? ⟨w.heap.size + 2, 0, none⟩ = some (.int .i64 (X 0)) ∧ wr.cell? ⟨w.heap.size + 2, 1, none⟩ = some (.int .i64 (X 1)) ∧ wr.cell? ⟨w.heap.size + 2, 2, none⟩ = some (.int .i64 (X 2)) ∧ wr.cell? ⟨w.heap.size + 2, 3, none⟩ = some (.int .i64 (X 3)) ∧ wr.cell? ⟨w.heap.size + 2, 4, none⟩ = some (.int .i64 (X 4)) ∧ wr.cell? ⟨w.heap.size + 2, 5, none⟩ = some (.int .i64 (X 5)) ∧ wr.cell? ⟨w.heap.size + 2, 18, none⟩ = some (.int .i64 (X 18)) ∧ wr.cell? ⟨w.heap.size + 2, 19, none⟩ = some (.int .i64 (X 19)) ∧ wr.cell? ⟨w.heap.size + 2, 20, none⟩ = some (.int .i64 (X 20)) ∧ wr.cell? ⟨w.heap.size + 2, 21, none⟩ = some (.int .i64 (X 21)) := ⟨acells P0.out.ab (by decide), acells P0.out.ab (by decide), acells P0.out.ab (by decide), acells P0.out.ab (by decide), acells P0.out.ab (by decide), acells P0.out.ab (by decide), acells P0.out.ab (by decide), acells P0.out.ab (by decide), acells P0.out.ab (by decide), acells P0.out.ab (by decide)⟩
        have al := blk_lt P0.out.ab
        go_upto_region 14 with (refine wpList_store_mid rfl 25 (.tmp 9) (.tmp 58) rfl wr.heap.size 0 #[.int .i64 (X 0), .int .i64 (X 1), .int .i64 (X 2), .int .i64 (X 3), .int .i64 (X 4), .int .i64 (X 5), .int .i64 0, .int .i64 0, .int .i64 0, .int .i64 0, .int .i64 0, .int .i64 0, .int .i64 0, .int .i64 0, .int .i64 0, .int .i64 0, .int .i64 0, .int .i64 0, .int .i64 (X 18), .int .i64 (X 19), .int .i64 (X 20), .int .i64 (X 21)] rfl rfl (gthere (blk_new wr (gObj zN))) gsize (gone (fillN X 6)) ?_)
        have Q0 : Hid (QS w zs X wr.heap.size 6 ((wr.alloc (.cells #[.int .i64 0, .int .i64 0, .int .i64 0, .int .i64 0, .int .i64 0, .int .i64 0, .int .i64 0, .int .i64 0, .int .i64 0, .int .i64 0, .int .i64 0, .int .i64 0, .int .i64 0, .int .i64 0, .int .i64 0, .int .i64 0, .int .i64 0, .int .i64 0, .int .i64 0, .int .i64 0, .int .i64 0, .int .i64 0] 25)).setCells wr.heap.size 0 [.int .i64 (X 0), .int .i64 (X 1), .int .i64 (X 2), .int .i64 (X 3), .int .i64 (X 4), .int .i64 (X 5), .int .i64 0, .int .i64 0, .int .i64 0, .int .i64 0, .int .i64 0, .int .i64 0, .int .i64 0, .int .i64 0, .int .i64 0, .int .i64 0, .int .i64 0, .int .i64 0, .int .i64 (X 18), .int .i64 (X 19), .int .i64 (X 20), .int .i64 (X 21)])) := Lib.hid (QS.start P0.out)
        obtain ⟨G, hGe⟩ : ∃ G, G = wr.heap.size := ⟨_, rfl⟩
        rw [← hGe] at Q0 ⊢
        generalize (wr.alloc (.cells #[.int .i64 0, .int .i64 0, .int .i64 0, .int .i64 0, .int .i64 0, .int .i64 0, .int .i64 0, .int .i64 0, .int .i64 0, .int .i64 0, .int .i64 0, .int .i64 0, .int .i64 0, .int .i64 0, .int .i64 0, .int .i64 0, .int .i64 0, .int .i64 0, .int .i64 0, .int .i64 0, .int .i64 0, .int .i64 0] 25)).setCells G 0 [.int .i64 (X 0), .int .i64 (X 1), .int .i64 (X 2), .int .i64 (X 3), .int .i64 (X 4), .int .i64 (X 5), .int .i64 0, .int .i64 0, .int .i64 0, .int .i64 0, .int .i64 0, .int .i64 0, .int .i64 0, .int .i64 0, .int .i64 0, .int .i64 0, .int .i64 0, .int .i64 0, .int .i64 (X 18), .int .i64 (X 19), .int .i64 (X 20), .int .i64 (X 21)] = wG at *
        clear a0 a1 a2 a3 a4 a5 a18 a19 a20 a21 al hGe P0
        refine region_effs 3 16 [] [(none, []), (none, []), (none, [])] [(59, (.pointer (some ⟨G, 6, none⟩))), (60, (.slice (some ⟨G, 6, none⟩) 5 5)), (61, (.slice (some ⟨w.heap.size + 2, 6, none⟩) 5 16))] (fun bsE vsE W => QS w zs X G 6 W) (by kernel_rfl) (by kernel_rfl) rfl (by kernel_rfl) (by kernel_rfl) (by simp) (by rfl) ?h0 ?each ?tail
        case h0 =>
          intro vsE hlv
          obtain rfl := len_nil hlv
          exact Q0.out.step (Below.refl _ _).drew
        case each =>
          simp only [List.take_succ_cons, List.take_zero, AllE]
          refine ⟨?_, ?_, ?_, trivial⟩
          · refine ⟨59, (.pointer (some ⟨G, 6, none⟩)), rfl, by kernel_rfl, ?_⟩
            intro bsE vsE W hlb hlv hnd h
            obtain rfl := len_nil hlb
            obtain rfl := len_nil hlv
            replace h : QS w zs X G 6 W := h
            clear hnd
            have HST := Lib.hid h
            intro K Q hK
            simp only [putE, updAll, Act.put, List.setIfInBounds_toArray, List.set_cons_zero, List.set_cons_succ, List.set_nil] at hK ⊢
            go_wp2_with (fail)
            all_goals (first | exact hK _ (by first | exact h | exact h.step (by repeat' (first | exact Below.refl _ _ | apply bDrewN | apply bDrew))) | exact (by first | exact h | exact h.step (by repeat' (first | exact Below.refl _ _ | apply bDrewN | apply bDrew))))
          · refine ⟨60, (.slice (some ⟨G, 6, none⟩) 5 5), rfl, by kernel_rfl, ?_⟩
            intro bsE vsE W hlb hlv hnd h
            obtain rfl := len_nil hlb
            obtain rfl := len_nil hlv
            replace h : QS w zs X G 6 W := h
            clear hnd
            have HST := Lib.hid h
            intro K Q hK
            simp only [putE, updAll, Act.put, List.setIfInBounds_toArray, List.set_cons_zero, List.set_cons_succ, List.set_nil] at hK ⊢
            go_wp2_with (fail)
            all_goals (first | exact hK _ (by first | exact h | exact h.step (by repeat' (first | exact Below.refl _ _ | apply bDrewN | apply bDrew))) | exact (by first | exact h | exact h.step (by repeat' (first | exact Below.refl _ _ | apply bDrewN | apply bDrew))))
          · refine ⟨61, (.slice (some ⟨w.heap.size + 2, 6, none⟩) 5 16), rfl, by kernel_rfl, ?_⟩
            intro bsE vsE W hlb hlv hnd h
            obtain rfl := len_nil hlb
            obtain rfl := len_nil hlv
            replace h : QS w zs X G 6 W := h
            clear hnd
            have HST := Lib.hid h
            intro K Q hK
            simp only [putE, updAll, Act.put, List.setIfInBounds_toArray, List.set_cons_zero, List.set_cons_succ, List.set_nil] at hK ⊢
            go_wp2_with (fail)
            all_goals (first | exact hK _ (by first | exact h | exact h.step (by repeat' (first | exact Below.refl _ _ | apply bDrewN | apply bDrew))) | exact (by first | exact h | exact h.step (by repeat' (first | exact Below.refl _ _ | apply bDrewN | apply bDrew))))
        case tail =>
          intro vsE W hlv h
          obtain rfl := len_nil hlv
          replace h : QS w zs X G 6 W := h
          have HST := Lib.hid h
          refine wpOp_plain rfl rfl ?_
          simp only [putE, updAll, Act.put, List.setIfInBounds_toArray, List.set_cons_zero, List.set_cons_succ, List.set_nil]
          refine wp_copy_cells (.tmp 60) (.tmp 61) 52 52 rfl 2 Tryz.underlying52 (by kernel_rfl) G 6 5 5 ⟨w.heap.size + 2, 6, none⟩ 5 16 rfl rfl [.int .i64 (X 6), .int .i64 (X 7), .int .i64 (X 8), .int .i64 (X 9), .int .i64 (X 10)] rfl h.src (fun j hj => by have hj5 : j < 5 := hj; rw [gcells h.gb (show 6 + j < 22 by omega)]; rfl) (fun j hj => blk_free h.gb) (fun v hv => by simp only [List.mem_cons, List.not_mem_nil, or_false] at hv; rcases hv with rfl | rfl | rfl | rfl | rfl <;> rfl) ?_
          have Q1 := Lib.hid h.copy
          clear h HST
          generalize W.setCells G 6 [.int .i64 (X 6), .int .i64 (X 7), .int .i64 (X 8), .int .i64 (X 9), .int .i64 (X 10)] = wH at *
          go_wp2_with fail
          go_loopw [10, 63] (fun _ i wr => ∃ k : Nat, k ≤ 7 ∧ i = .int .i64 k ∧ Hid (QS w zs X G (11 + k) wr)) (fun _ i _ => 7 - (intOf i).toNat)
          case atStart => exact ⟨0, by omega, rfl, Q1⟩
          case round =>
            obtain ⟨k, hk, rfl, Q2⟩ := hrel
            clear Q1
            have i1 : (0 : Int) ≤ (k : Int) := by omega
            by_cases hlt : k < 7
            · have hlt2 : (k : Int) < 7 := by omega
              have ac := acells Q2.out.ps.ab (show 11 + k < 22 by omega)
              have al := blk_lt Q2.out.ps.ab
              have gc := gcells Q2.out.gb (show 11 + k < 22 by omega)
              have gf := blk_free (o := 11 + k) Q2.out.gb
              have gl := blk_lt Q2.out.gb
              have Q3 := Lib.hid (Q2.out.next (show 11 + k < 18 by omega))
              go_wp2_with fail
              go_roundw
              case rel => first | exact ⟨k + 1, by omega, by push_cast; rfl, Q3⟩ | ((repeat apply Exists.intro); exact ⟨⟨k + 1, by omega, by push_cast; rfl, Q3⟩, rfl⟩)
              case measure => (simp [intOf]; omega)
            · obtain rfl : k = 7 := by omega
              have Q3 : Hid (QS w zs X G 18 wr) := Q2
              clear Q2 hlt hk i1
              have gb : wr.heap[G]? = some (gObj X) := by have := Q3.out.gb; rwa [fill_all] at this
              have HT := Lib.hid (fun W hG => PText_any X W hG)
              by_cases hA : chkR X = 0 ∧ (txS X).1 = s
              · have e2 : (txS X).2 = 0 := by rw [txS_ok hA.1]
                rw [hA.2, e2] at HT
                have HP := Lib.hid (pa_some hA.1 (HST.out X hA.1 hA.2))
                clear hA e2 HRD
                go_wp2_with (first | (refine wpList_load_mid rfl 25 (.tmp 9) rfl G 0 rfl [.int .i64 (X 0), .int .i64 (X 1), .int .i64 (X 2), .int .i64 (X 3), .int .i64 (X 4), .int .i64 (X 5), .int .i64 (X 6), .int .i64 (X 7), .int .i64 (X 8), .int .i64 (X 9), .int .i64 (X 10), .int .i64 (X 11), .int .i64 (X 12), .int .i64 (X 13), .int .i64 (X 14), .int .i64 (X 15), .int .i64 (X 16), .int .i64 (X 17), .int .i64 (X 18), .int .i64 (X 19), .int .i64 (X 20), .int .i64 (X 21)] _ (grange gb) Tryz.underlying25 rfl gsize ?_) | (refine wpList_load_mid rfl 25 (.tmp 9) rfl G 0 rfl [.int .i64 (X 0), .int .i64 (X 1), .int .i64 (X 2), .int .i64 (X 3), .int .i64 (X 4), .int .i64 (X 5), .int .i64 (X 6), .int .i64 (X 7), .int .i64 (X 8), .int .i64 (X 9), .int .i64 (X 10), .int .i64 (X 11), .int .i64 (X 12), .int .i64 (X 13), .int .i64 (X 14), .int .i64 (X 15), .int .i64 (X 16), .int .i64 (X 17), .int .i64 (X 18), .int .i64 (X 19), .int .i64 (X 20), .int .i64 (X 21)] _ (grange gb5) Tryz.underlying25 rfl gsize ?_) | (go_at_call 5; refine (HT.out _ (gstep HG.out Q3.out.ps.bel)).mono ?_; rintro e w5 ⟨rfl, hb5⟩; have Q4 := Lib.hid (Q3.out.step hb5); have gb5 := blk_step gb hb5) | (refine wpList_store_mid rfl 25 (.tmp 2) (.tmp 87) rfl w.heap.size 0 #[.int .i64 (X 0), .int .i64 (X 1), .int .i64 (X 2), .int .i64 (X 3), .int .i64 (X 4), .int .i64 (X 5), .int .i64 (X 6), .int .i64 (X 7), .int .i64 (X 8), .int .i64 (X 9), .int .i64 (X 10), .int .i64 (X 11), .int .i64 (X 12), .int .i64 (X 13), .int .i64 (X 14), .int .i64 (X 15), .int .i64 (X 16), .int .i64 (X 17), .int .i64 (X 18), .int .i64 (X 19), .int .i64 (X 20), .int .i64 (X 21)] rfl rfl (gthere Q4.out.ps.rb) gsize (gone X) ?_))
                exact bodyPost_ret (v := .tuple #[.agg #[.int .i64 (X 0), .int .i64 (X 1), .int .i64 (X 2), .int .i64 (X 3), .int .i64 (X 4), .int .i64 (X 5), .int .i64 (X 6), .int .i64 (X 7), .int .i64 (X 8), .int .i64 (X 9), .int .i64 (X 10), .int .i64 (X 11), .int .i64 (X 12), .int .i64 (X 13), .int .i64 (X 14), .int .i64 (X 15), .int .i64 (X 16), .int .i64 (X 17), .int .i64 (X 18), .int .i64 (X 19), .int .i64 (X 20), .int .i64 (X 21)], .int .i64 0]) (res_cell Tryz.results7 rfl (gload (gstore (n := X) Q4.out.ps.rb)) rfl) rfl ⟨by rw [HP.out.2, HP.out.1 0 (by decide), HP.out.1 1 (by decide), HP.out.1 2 (by decide), HP.out.1 3 (by decide), HP.out.1 4 (by decide), HP.out.1 5 (by decide), HP.out.1 6 (by decide), HP.out.1 7 (by decide), HP.out.1 8 (by decide), HP.out.1 9 (by decide), HP.out.1 10 (by decide), HP.out.1 11 (by decide), HP.out.1 12 (by decide), HP.out.1 13 (by decide), HP.out.1 14 (by decide), HP.out.1 15 (by decide), HP.out.1 16 (by decide), HP.out.1 17 (by decide), HP.out.1 18 (by decide), HP.out.1 19 (by decide), HP.out.1 20 (by decide), HP.out.1 21 (by decide)], bSetCells _ _ Q4.out.ps.bel (Nat.le_refl _)⟩
              · have HN := Lib.hid (HRD.out (fun h => hA ⟨h.1, ba_inj (by rw [txS_ok h.1, h.2, ← HL.out])⟩))
                clear HRD
                by_cases hc : chkR X = 0
                · have hne : ¬ (txS X).1 = s := fun e => hA ⟨hc, e⟩
                  have e2 : (txS X).2 = 0 := by rw [txS_ok hc]
                  rw [e2] at HT
                  generalize (txS X).1 = t at *
                  have hn2 := ba_nl hne
                  have hn3 : (t.toList == s.toList) = false := by simpa using hn2
                  clear hA e2
                  go_wp2_with (first | (refine wpList_load_mid rfl 25 (.tmp 9) rfl G 0 rfl [.int .i64 (X 0), .int .i64 (X 1), .int .i64 (X 2), .int .i64 (X 3), .int .i64 (X 4), .int .i64 (X 5), .int .i64 (X 6), .int .i64 (X 7), .int .i64 (X 8), .int .i64 (X 9), .int .i64 (X 10), .int .i64 (X 11), .int .i64 (X 12), .int .i64 (X 13), .int .i64 (X 14), .int .i64 (X 15), .int .i64 (X 16), .int .i64 (X 17), .int .i64 (X 18), .int .i64 (X 19), .int .i64 (X 20), .int .i64 (X 21)] _ (grange gb) Tryz.underlying25 rfl gsize ?_) | (go_at_call 5; refine (HT.out _ (gstep HG.out Q3.out.ps.bel)).mono ?_; rintro e w5 ⟨rfl, hb5⟩; have Q4 := Lib.hid (Q3.out.step hb5); have gb5 := blk_step gb hb5) | (refine wpList_store_mid rfl 25 (.tmp 2) (.tmp 86) rfl w.heap.size 0 #[.int .i64 0, .int .i64 0, .int .i64 0, .int .i64 0, .int .i64 0, .int .i64 0, .int .i64 0, .int .i64 0, .int .i64 0, .int .i64 0, .int .i64 0, .int .i64 0, .int .i64 0, .int .i64 0, .int .i64 0, .int .i64 0, .int .i64 0, .int .i64 0, .int .i64 0, .int .i64 0, .int .i64 0, .int .i64 0] rfl rfl (gthere Q4.out.ps.rb) gsize (gone zN) ?_))
                  exact bodyPost_ret (v := .tuple #[.agg #[.int .i64 0, .int .i64 0, .int .i64 0, .int .i64 0, .int .i64 0, .int .i64 0, .int .i64 0, .int .i64 0, .int .i64 0, .int .i64 0, .int .i64 0, .int .i64 0, .int .i64 0, .int .i64 0, .int .i64 0, .int .i64 0, .int .i64 0, .int .i64 0, .int .i64 0, .int .i64 0, .int .i64 0, .int .i64 0], .int .i64 8]) (res_cell Tryz.results7 rfl (gload (gstore (n := zN) Q4.out.ps.rb)) rfl) rfl ⟨by rw [HN.out.1, HN.out.2], bSetCells _ _ Q4.out.ps.bel (Nat.le_refl _)⟩
                · rw [txS_no hc] at HT
                  dsimp only at HT
                  clear hA
                  go_wp2_with (first | (refine wpList_load_mid rfl 25 (.tmp 9) rfl G 0 rfl [.int .i64 (X 0), .int .i64 (X 1), .int .i64 (X 2), .int .i64 (X 3), .int .i64 (X 4), .int .i64 (X 5), .int .i64 (X 6), .int .i64 (X 7), .int .i64 (X 8), .int .i64 (X 9), .int .i64 (X 10), .int .i64 (X 11), .int .i64 (X 12), .int .i64 (X 13), .int .i64 (X 14), .int .i64 (X 15), .int .i64 (X 16), .int .i64 (X 17), .int .i64 (X 18), .int .i64 (X 19), .int .i64 (X 20), .int .i64 (X 21)] _ (grange gb) Tryz.underlying25 rfl gsize ?_) | (go_at_call 5; refine (HT.out _ (gstep HG.out Q3.out.ps.bel)).mono ?_; rintro e w5 ⟨rfl, hb5⟩; have Q4 := Lib.hid (Q3.out.step hb5); have gb5 := blk_step gb hb5) | (refine wpList_store_mid rfl 25 (.tmp 2) (.tmp 86) rfl w.heap.size 0 #[.int .i64 0, .int .i64 0, .int .i64 0, .int .i64 0, .int .i64 0, .int .i64 0, .int .i64 0, .int .i64 0, .int .i64 0, .int .i64 0, .int .i64 0, .int .i64 0, .int .i64 0, .int .i64 0, .int .i64 0, .int .i64 0, .int .i64 0, .int .i64 0, .int .i64 0, .int .i64 0, .int .i64 0, .int .i64 0] rfl rfl (gthere Q4.out.ps.rb) gsize (gone zN) ?_))
                  exact bodyPost_ret (v := .tuple #[.agg #[.int .i64 0, .int .i64 0, .int .i64 0, .int .i64 0, .int .i64 0, .int .i64 0, .int .i64 0, .int .i64 0, .int .i64 0, .int .i64 0, .int .i64 0, .int .i64 0, .int .i64 0, .int .i64 0, .int .i64 0, .int .i64 0, .int .i64 0, .int .i64 0, .int .i64 0, .int .i64 0, .int .i64 0, .int .i64 0], .int .i64 8]) (res_cell Tryz.results7 rfl (gload (gstore (n := zN) Q4.out.ps.rb)) rfl) rfl ⟨by rw [HN.out.1, HN.out.2], bSetCells _ _ Q4.out.ps.bel (Nat.le_refl _)⟩
  · have HN := Lib.hid (pa_none (parG_many (ok := okG2) (l := s.data.toList) (by rw [hln]; exact h23)))
    rw [HN.out.1, HN.out.2]
    have h23b : ¬ ((pcz s).length : Int) = 23 := by omega
    have h23c : (((pcz s).length : Int) != 23) = true := by simpa using h23b
    generalize pcz s = zs at *
    clear hmem hgt hln h23
    go_enter Tryz.func7, Tryz.ntmps7
    go_wp2_with (first
      | (go_at_call 21; refine (CS.out _ (gstep HG.out (by repeat' (first | exact Below.refl _ _ | assumption | apply bDrewN | apply bDrew | apply bAlloc | (refine bSet ?_ ?_ _) | (refine bStep ?_ (by assumption)) | omega | (simp <;> omega))))).mono ?_; rintro e w1 ⟨rfl, rfl⟩)
      | (refine wpList_store_mid rfl 25 (.tmp 2) (.tmp 18) rfl w.heap.size 0 #[.int .i64 0, .int .i64 0, .int .i64 0, .int .i64 0, .int .i64 0, .int .i64 0, .int .i64 0, .int .i64 0, .int .i64 0, .int .i64 0, .int .i64 0, .int .i64 0, .int .i64 0, .int .i64 0, .int .i64 0, .int .i64 0, .int .i64 0, .int .i64 0, .int .i64 0, .int .i64 0, .int .i64 0, .int .i64 0] rfl rfl (gthere (blk_alloc B0.out)) gsize (gone zN) ?_))
    have hR := gstore (n := zN) (blk_alloc (o := .cells (zs.map Value.string).toArray 9) B0.out)
    refine bodyPost_ret (v := .tuple #[.agg #[.int .i64 0, .int .i64 0, .int .i64 0, .int .i64 0, .int .i64 0, .int .i64 0, .int .i64 0, .int .i64 0, .int .i64 0, .int .i64 0, .int .i64 0, .int .i64 0, .int .i64 0, .int .i64 0, .int .i64 0, .int .i64 0, .int .i64 0, .int .i64 0, .int .i64 0, .int .i64 0, .int .i64 0, .int .i64 0], .int .i64 8]) (res_cell Tryz.results7 rfl (gload hR) rfl) rfl ⟨rfl, bSetCells _ _ (by repeat' (first | exact Below.refl _ _ | assumption | apply bDrewN | apply bDrew | apply bAlloc | (refine bSet ?_ ?_ _) | (refine bStep ?_ (by assumption)) | omega | (simp <;> omega))) (Nat.le_refl _)⟩
end Go.Proofs.YtpdhkgfdmpofiaaGreatDoor
