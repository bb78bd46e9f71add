/-
 events, fires of the laws' worlds.
-/
import Derived.Test.YtmpilgkfbibhlaaGreatDoorG32Y
import Derived.Test.YtmpilgkfbibhlaaGreatDoorG20Y
set_option linter.unusedSimpArgs false
set_option linter.unusedVariables false
namespace Go.Proofs.YtmpilgkfbibhlaaGreatDoor
open Sx Go.RowKit Mr
set_option maxHeartbeats 4000000 in
set_option maxRecDepth 20000 in
theorem events_any {w0 w : World} {Wd R : Nat} {vb vk : Value} {bks : List Bk} {S : WdS} (h : WdE w0 Wd R vb vk bks S w) (ho : OkA S.a) (nm : ByteArray) (p : ByteArray × List Ent) (hp : S.a.ps[findA nm S.a]? = some p) : Calls Tryz.prog 22 #[.pointer (some ⟨Wd, 0, none⟩), .string nm] w fun en w' => ∃ v', en = .returned v' ∧ w'.ownsRow w.heap.size 29 6 v' p.2.length (flatE (evsOf p.2)) ∧ Below w.heap.size w w' := by
 obtain ⟨g, vp, vpk, vmd, vbt, vmk, h⟩ := h
 have CE := Lib.hid (Entries_yes h.v ho nm p hp)
 have c0 := blk_cell (o := 0) h.blk rfl
 have cl := blk_lt h.blk
 have hpl := (ho.p p (List.mem_of_getElem? hp)).1
 have HPL := Lib.hid hpl
 have HI0 := Lib.hid (info_parts infoEv)
 clear h ho hp
 go_enter Tryz.func22, Tryz.ntmps22
 go_upto_region 2 with (go_at_call 16; refine CE.out.mono ?_; rintro e w1 ⟨v9, rfl, hrow, hb1⟩; obtain ⟨av, cv, ev⟩ := row_slice hrow; subst ev; have HR := Lib.hid hrow; have HB1 := Lib.hid hb1; clear hrow hb1)
 clear c0 cl CE
 go_wp2_with fail
 go_loopw [7, 8] (fun v ix wr => ∃ i : Nat, i ≤ p.2.length ∧ ix = .int .i64 i ∧ Hid (wr.ownsRow w1.heap.size 29 6 v i (flatE (evsOf (p.2.take i)))) ∧ Hid (Below w1.heap.size w1 wr)) (fun _ ix _ => p.2.length - (intOf ix).toNat)
 case atStart => exact ⟨0, by omega, rfl, ⟨rfl, Or.inl ⟨rfl, rfl⟩⟩, Below.refl _ _⟩
 case round =>
  obtain ⟨i, hi2, rfl, HO, HW⟩ := hrel
  by_cases hc : i < p.2.length
  ·have c1 : (i : Int) < p.2.length := by omega
   have c0 : (0 : Int) ≤ i := by omega
   obtain ⟨y, hk⟩ : ∃ y, p.2[i]? = some y := ⟨p.2[i], List.getElem?_eq_getElem hc⟩
   obtain ⟨b, rfl, hb0, hcs⟩ := row_cells (b := 0) (c := cv) HR.out (by omega)
   have HS : Hid (p.2.take (i + 1) = p.2.take i ++ [y]) := by unfold Hid; rw [List.take_add_one, hk]; rfl
   obtain ⟨⟨k, t, a1, b1, nm9, ot⟩, by_, pad, head, tag⟩ := y
   have lb := Nat.lt_of_lt_of_le hb0 HW.out.size
   have g0 : wr.cell? ⟨b, i * 10, none⟩ = some (.int .i64 k) := cell_step (hcs (i * 10 + 0) _ (flatY_at hk rfl)) HW.out
   have g1 : wr.cell? ⟨b, i * 10 + 1, none⟩ = some (.int .i64 t) := cell_step (hcs (i * 10 + 1) _ (flatY_at hk rfl)) HW.out
   have g2 : wr.cell? ⟨b, i * 10 + 2, none⟩ = some (.int .i64 a1) := cell_step (hcs (i * 10 + 2) _ (flatY_at hk rfl)) HW.out
   have g3 : wr.cell? ⟨b, i * 10 + 3, none⟩ = some (.int .i64 b1) := cell_step (hcs (i * 10 + 3) _ (flatY_at hk rfl)) HW.out
   have g4 : wr.cell? ⟨b, i * 10 + 4, none⟩ = some (.string nm9) := cell_step (hcs (i * 10 + 4) _ (flatY_at hk rfl)) HW.out
   have g5 : wr.cell? ⟨b, i * 10 + 5, none⟩ = some (.string ot) := cell_step (hcs (i * 10 + 5) _ (flatY_at hk rfl)) HW.out
   clear hcs hk hc hb0
   go_wp2_with (at_builtin; refine wpList_app _ rfl (.tmp 28) (.tmp 34) 61 rfl w1.heap.size 29 HI0.out.choose _ 6 64 Tryz.underlying61 HI0.out.choose_spec.1 HI0.out.choose_spec.2.1 HI0.out.choose_spec.2.2.1 HI0.out.choose_spec.2.2.2 rfl (by decide) _ i (flatE (evsOf (p.2.take i))) rfl (own_step HO.out (bAl (o := .cells (evtC (k, t, a1, b1, nm9, ot)).toArray 29))) (some ⟨wr.heap.size, 0, none⟩) 1 1 (evtC (k, t, a1, b1, nm9, ot)) rfl rfl new_cells6 (evtC_one _) (by have := HPL.out; unfold maxLen; omega) (by have := HPL.out; omega) (by have := HW.out.size; simp; omega) ?_; intro v' w5 hown hgrow hat; have hO2 : Hid (w5.ownsRow w1.heap.size 29 6 v' (i + 1) (flatE (evsOf (p.2.take (i + 1))))) := (by unfold Hid; rw [HS.out]; unfold evsOf; rw [List.map_append]; exact (flatE_snoc _ _) ▸ hown); have hB2 : Hid (Below w1.heap.size w1 w5) := (bAlloc HW.out _).grown hgrow (by have := HW.out.size; simp; omega) (fun k hk => (World.ownsRow.lt HO.out k hk).1); clear hown hgrow hat)
   exact ⟨⟨i + 1, by omega, by push_cast; rfl, hO2, hB2⟩, by simp [intOf]; omega⟩
  ·obtain rfl : i = p.2.length := by omega
   have hO : Hid (wr.ownsRow w1.heap.size 29 6 u7 p.2.length (flatE (evsOf p.2))) := by have q := HO.out; rw [List.take_of_length_le (Nat.le_refl _)] at q; exact q
   obtain ⟨a9, c9, e9⟩ := row_slice hO.out
   subst e9
   clear hc
   go_wp2_with fail
   exact bodyPost_ret (v := .slice a9 p.2.length c9) (by simp only [results, Tryz.results22]; go_simp) rfl ⟨_, rfl, own_low hO.out HB1.out.size, bStep HB1.out HW.out⟩
end Go.Proofs.YtmpilgkfbibhlaaGreatDoor
