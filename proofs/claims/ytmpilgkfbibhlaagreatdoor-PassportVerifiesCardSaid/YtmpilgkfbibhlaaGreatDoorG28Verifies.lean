/-
 PassportVerifies: the walk.
-/
import Derived.Test.YtmpilgkfbibhlaaGreatDoorG27Verifies
import Derived.Test.YtmpilgkfbibhlaaGreatDoorG9Verifies
import Derived.Test.YtmpilgkfbibhlaaGreatDoorG18Verifies
import Derived.Test.YtmpilgkfbibhlaaGreatDoorG14Verifies
import Derived.Deep.Slices
import Derived.Lib.SmallJoins
import Derived.OpenShut
import Derived.ChangeSame
import Derived.ChangeSlices
import Derived.ChangeShapes
set_option linter.unusedSimpArgs false
set_option linter.unusedVariables false
namespace Go.Proofs.YtmpilgkfbibhlaaGreatDoor
open Sx Go.RowKit Mr
def shB (nm ot : ByteArray) : Bool := decide (nm.size ≤ 100 ∧ ot.size ≤ 100)
set_option maxRecDepth 20000 in
theorem short_any (k t a b : Int) (nm ot : ByteArray) (w : World) :
  Calls Tryz.prog 11 #[.agg #[.int .i64 k, .int .i64 t, .int .i64 a, .int .i64 b, .string nm, .string ot]] w fun e w' => e = .returned (.bool (shB nm ot)) ∧ Below w.heap.size w w' := by
 unfold shB
 by_cases h1 : nm.size ≤ 100
 ·by_cases h2 : ot.size ≤ 100
  ·rw [decide_eq_true ⟨h1, h2⟩]
   have h3 : (nm.size : Int) ≤ 100 := by omega
   have h4 : (ot.size : Int) ≤ 100 := by omega
   clear h1 h2
   go_enter Tryz.func11, Tryz.ntmps11
   go_wp2_with fail
   go_ret
   exact ⟨rfl, (by repeat' (first | exact Below.refl _ _ | assumption | apply bDrewN | apply bDrew | apply bAlloc | (refine bSet ?_ ?_ _) | (refine bStep ?_ (by assumption)) | omega | (simp <;> omega)))⟩
  ·rw [decide_eq_false (fun h => h2 h.2)]
   have h3 : (nm.size : Int) ≤ 100 := by omega
   have h4 : ¬ (ot.size : Int) ≤ 100 := by omega
   have h5 : 100 < (ot.size : Int) := by omega
   clear h1 h2
   go_enter Tryz.func11, Tryz.ntmps11
   go_wp2_with fail
   go_ret
   exact ⟨rfl, (by repeat' (first | exact Below.refl _ _ | assumption | apply bDrewN | apply bDrew | apply bAlloc | (refine bSet ?_ ?_ _) | (refine bStep ?_ (by assumption)) | omega | (simp <;> omega)))⟩
 ·rw [decide_eq_false (fun h => h1 h.1)]
  have h3 : ¬ (nm.size : Int) ≤ 100 := by omega
  have h5 : 100 < (nm.size : Int) := by omega
  clear h1
  go_enter Tryz.func11, Tryz.ntmps11
  go_wp2_with fail
  go_ret
  exact ⟨rfl, (by repeat' (first | exact Below.refl _ _ | assumption | apply bDrewN | apply bDrew | apply bAlloc | (refine bSet ?_ ?_ _) | (refine bStep ?_ (by assumption)) | omega | (simp <;> omega)))⟩
def briefB (bks : List Bk) : Bool := decide (bks.length ≤ 20 ∧ ∀ bk ∈ bks, bk.2.length ≤ 300)
set_option maxHeartbeats 2000000 in
set_option maxRecDepth 20000 in
theorem brief_any {a : Option Addr} {bks : List Bk} {w : World} (c : Nat) (h : BksAt a bks w) (hl : bks.length ≤ 9223372036854775807) : Calls Tryz.prog 9 #[.slice a bks.length c] w fun e w' => e = .returned (.bool (briefB bks)) ∧ Below w.heap.size w w' := by
 by_cases h1 : 20 < bks.length
 ·have h2 : (20 : Int) < bks.length := by omega
  have HF : Hid (briefB bks = false) := decide_eq_false (fun e => by have := e.1; omega)
  clear h h1 hl
  go_enter Tryz.func9, Tryz.ntmps9
  go_wp2_with fail
  exact bodyPost_ret (v := .bool false) (by simp only [results, Tryz.results9]; go_simp) rfl ⟨by rw [HF.out], Below.refl _ _⟩
 ·have h2 : ¬ (20 : Int) < bks.length := by omega
  have H := Lib.hid h
  have HL := Lib.hid h1
  have h20 : bks.length ≤ 20 := by omega
  clear h h1 hl
  go_enter Tryz.func9, Tryz.ntmps9
  go_wp2_with fail
  clear h2
  go_loopw [3] (fun ix wr => ∃ i : Nat, i ≤ bks.length ∧ ix = .int .i64 i ∧ Hid (∀ bk ∈ bks.take i, bk.2.length ≤ 300) ∧ Hid (Below w.heap.size w wr)) (fun ix _ => bks.length - (intOf ix).toNat)
  case atStart => exact ⟨0, by omega, rfl, (fun bk hbk => by simp at hbk), Below.refl _ _⟩
  case round =>
   obtain ⟨i, hi, rfl, HQ, HW⟩ := hrel
   by_cases hc : i < bks.length
   ·have c1 : (i : Int) < bks.length := by omega
    have c0 : (0 : Int) ≤ i := by omega
    obtain ⟨bk, hk⟩ : ∃ bk, bks[i]? = some bk := ⟨bks[i], List.getElem?_eq_getElem hc⟩
    obtain ⟨b, off, rfl, hb0, hcs⟩ := H.out (by rintro rfl; simp at hc)
    obtain ⟨s0, vp, s1, hpv⟩ := hcs i bk hk
    obtain ⟨ap, cp, rfl, hpc⟩ := hpv
    have g1 := cell_step s1 HW.out
    have HK := Lib.hid hk
    clear hcs hpc s0 s1 hk hc hb0
    by_cases h3 : bk.2.length ≤ 300
    ·have h4 : ¬ (300 : Int) < bk.2.length := by omega
     have HQ2 : Hid (∀ bk ∈ bks.take (i + 1), bk.2.length ≤ 300) := fun b9 hb9 => by
      rw [List.take_add_one, HK.out] at hb9
      rcases List.mem_append.1 hb9 with q | q
      ·exact HQ.out b9 q
      ·have e9 : b9 = bk := by simpa using q
       rw [e9]; exact h3
     clear h3
     go_wp2_with fail
     exact ⟨⟨i + 1, by omega, by push_cast; rfl, HQ2, HW⟩, by simp [intOf]; omega⟩
    ·have h4 : (300 : Int) < bk.2.length := by omega
     have HF : Hid (briefB bks = false) := decide_eq_false (fun e => h3 (e.2 bk (List.mem_of_getElem? HK.out)))
     clear h3
     go_wp2_with fail
     exact bodyPost_ret (v := .bool false) (by simp only [results, Tryz.results9]; go_simp) rfl ⟨by rw [HF.out], HW.out⟩
   ·obtain rfl : i = bks.length := by omega
    have HQ2 : Hid (∀ bk ∈ bks, bk.2.length ≤ 300) := by have q := HQ.out; rw [List.take_of_length_le (Nat.le_refl _)] at q; exact q
    have HF : Hid (briefB bks = true) := decide_eq_true ⟨h20, HQ2.out⟩
    clear hc
    go_wp2_with fail
    exact bodyPost_ret (v := .bool true) (by simp only [results, Tryz.results9]; go_simp) rfl ⟨by rw [HF.out], HW.out⟩
set_option maxHeartbeats 8000000 in
set_option maxRecDepth 20000 in
theorem PassportVerifies_walk {a ab : Option Addr} {es : List Ent} {bks : List Bk} {w : World} (pt c cb : Nat) (name : ByteArray) (hE : EntAt a es w) (hB : BksAt ab bks w) (hG : Glob0 w) (hcap : es.length ≤ c) (hhd : ∀ y ∈ es, y.2.2.2.1 < 18446744073709551616)
  (hl : bks.length ≤ 9223372036854775807 ∧ es.length ≤ 9223372036854775807 ∧ name.size ≤ 9223372036854775807) :
  Calls Tryz.prog 3 #[.int .u64 (pt : Int), .slice ab bks.length cb, .string name, .slice a es.length c] w fun e w' => e = .returned (.bool true) ∧ Below w.heap.size w w' := by
 have CB := Lib.hid (brief_any cb hB hl.1)
 have HE := Lib.hid hE
 have HB := Lib.hid hB
 have HG := Lib.hid hG
 have HN := Lib.hid (And.intro hcap (And.intro hhd hl))
 clear hE hB hG hcap hhd hl
 cases hbr : briefB bks
 ·rw [hbr] at CB
  clear hbr
  go_enter Tryz.func3, Tryz.ntmps3
  go_wp2_with (first | (go_at_call 9; refine CB.out.mono ?_; rintro e w1 ⟨rfl, hb1⟩; have HB1 := Lib.hid hb1; have HG1 := Lib.hid (gstep HG.out hb1); clear hb1) | (go_at_call 10; refine (works_any _ (HG1.out)).mono ?_; rintro e w9 ⟨rfl, hb9⟩; have HB9 := Lib.hid hb9; clear hb9))
  exact bodyPost_ret (v := .bool true) (by simp only [results, Tryz.results3]; go_simp) rfl ⟨rfl, bStep HB1.out HB9.out⟩
 ·rw [hbr] at CB
  have HBK := Lib.hid (of_decide_eq_true hbr)
  clear hbr
  by_cases h1 : name.size ≤ 100
  ·have n1 : ¬ (100 : Int) < name.size := by omega
   have H1 := Lib.hid h1
   clear h1
   by_cases h2 : es.length ≤ 60
   ·have n2 : ¬ (60 : Int) < es.length := by omega
    have H2 := Lib.hid h2
    go_enter Tryz.func3, Tryz.ntmps3
    go_upto_region 3 with (first | (go_at_call 9; refine CB.out.mono ?_; rintro e w1 ⟨rfl, hb1⟩; have HB1 := Lib.hid hb1; have HG1 := Lib.hid (gstep HG.out hb1); clear hb1))
    clear n1 n2 CB
    go_wp2_with fail
    go_loopw [9] (fun ix wr => ∃ i : Nat, i ≤ es.length ∧ ix = .int .i64 i ∧ Hid (∀ y ∈ es.take i, y.1.2.2.2.2.1.size ≤ 100 ∧ y.1.2.2.2.2.2.size ≤ 100) ∧ Hid (Below w.heap.size w wr)) (fun ix _ => es.length - (intOf ix).toNat)
    case atStart => exact ⟨0, by omega, rfl, (fun y hy => by simp at hy), HB1⟩
    case round =>
     clear HB1 HG1
     obtain ⟨i, hi, rfl, HQ, HW⟩ := hrel
     have HGW := Lib.hid (gstep HG.out HW.out)
     by_cases hc : i < es.length
     ·have c1 : (i : Int) < es.length := by omega
      have c0 : (0 : Int) ≤ i := by omega
      obtain ⟨y, hk⟩ : ∃ y, es[i]? = some y := ⟨es[i], List.getElem?_eq_getElem hc⟩
      obtain ⟨b, off, rfl, hb0, hcs⟩ := HE.out (by rintro rfl; simp at hc)
      have HK := Lib.hid hk
      obtain ⟨⟨k, t, a1, b1, nm, ot⟩, by_, pad, head, tag⟩ := y
      have g0 : wr.cell? ⟨b, off + i * 10, none⟩ = some (.int .i64 k) := cell_step (hcs i _ hk 0 _ rfl) HW.out
      have g1 : wr.cell? ⟨b, off + i * 10 + 1, none⟩ = some (.int .i64 t) := cell_step (hcs i _ hk 1 _ rfl) HW.out
      have g2 : wr.cell? ⟨b, off + i * 10 + 2, none⟩ = some (.int .i64 a1) := cell_step (hcs i _ hk 2 _ rfl) HW.out
      have g3 : wr.cell? ⟨b, off + i * 10 + 3, none⟩ = some (.int .i64 b1) := cell_step (hcs i _ hk 3 _ rfl) HW.out
      have g4 : wr.cell? ⟨b, off + i * 10 + 4, none⟩ = some (.string nm) := cell_step (hcs i _ hk 4 _ rfl) HW.out
      have g5 : wr.cell? ⟨b, off + i * 10 + 5, none⟩ = some (.string ot) := cell_step (hcs i _ hk 5 _ rfl) HW.out
      have CSH := Lib.hid (fun W => short_any k t a1 b1 nm ot W)
      clear hcs hk hc hb0
      cases hs : shB nm ot
      ·rw [hs] at CSH
       clear hs
       go_wp2_with (first | (go_at_call 11; refine (CSH.out _).mono ?_; rintro e w3 ⟨rfl, hb3⟩; have HW3 := Lib.hid (bStep HW.out hb3); have HG3 := Lib.hid (gstep HGW.out hb3); clear hb3) | (go_at_call 10; refine (works_any _ (HG3.out)).mono ?_; rintro e w9 ⟨rfl, hb9⟩; have HB9 := Lib.hid hb9; clear hb9))
       exact bodyPost_ret (v := .bool true) (by simp only [results, Tryz.results3]; go_simp) rfl ⟨rfl, bStep HW3.out HB9.out⟩
      ·rw [hs] at CSH
       have hs2 := of_decide_eq_true hs
       have HQ2 : Hid (∀ y ∈ es.take (i + 1), y.1.2.2.2.2.1.size ≤ 100 ∧ y.1.2.2.2.2.2.size ≤ 100) := fun y9 hy9 => by
        rw [List.take_add_one, HK.out] at hy9
        rcases List.mem_append.1 hy9 with q | q
        ·exact HQ.out y9 q
        ·have e9 : y9 = ((k, t, a1, b1, nm, ot), by_, pad, head, tag) := by simpa using q
         rw [e9]; exact hs2
       clear hs hs2
       go_wp2_with (first | (go_at_call 11; refine (CSH.out _).mono ?_; rintro e w3 ⟨rfl, hb3⟩; have HW3 := Lib.hid (bStep HW.out hb3); clear hb3))
       exact ⟨⟨i + 1, by omega, by push_cast; rfl, HQ2, HW3⟩, by simp [intOf]; omega⟩
     ·obtain rfl : i = es.length := by omega
      have hq : ∀ y ∈ es, y.1.2.2.2.2.1.size ≤ 100 ∧ y.1.2.2.2.2.2.size ≤ 100 := by have q := HQ.out; rw [List.take_of_length_le (Nat.le_refl _)] at q; exact q
      have CV : Hid (∀ W, Below w.heap.size w W → Calls Tryz.prog 12 #[.int .u64 (pt : Int), .slice ab bks.length cb, .string name, .slice a es.length c] W fun e w' => e = .returned (verV (verR pt bks name es)) ∧ Below W.heap.size W w') := fun W hW =>
       Verify_any pt c cb name (HE.out.step hW) (HB.out.step hW) (gstep HG.out hW) ⟨by have := H2.out; omega, hq⟩ ⟨by have := HBK.out.1; omega, fun bk hbk => by have := HBK.out.2 bk hbk; omega⟩ (by have := H1.out; omega)
      have CR : Hid (∀ W, Below w.heap.size w W → Calls Tryz.prog 13 #[.int .u64 (pt : Int), .slice ab bks.length cb, .string name, .slice a es.length c] W fun e w' => e = .returned (verV (verR pt bks name es)) ∧ Below W.heap.size W w') := fun W hW =>
       RVerify_any pt c cb name (HE.out.step hW) (HB.out.step hW) (gstep HG.out hW) ⟨by have := H2.out; omega, hq⟩ ⟨by have := HBK.out.1; omega, fun bk hbk => by have := HBK.out.2 bk hbk; omega⟩ (by have := H1.out; omega) HN.out.1 HN.out.2.1
      generalize verR pt bks name es = r at *
      obtain ⟨r1, r2, r3⟩ := r
      unfold verV at CV CR
      dsimp only at CV CR
      clear hc hq
      go_wp2_with (first | (go_at_call 12; refine (CV.out _ HW.out).mono ?_; rintro e w3 ⟨rfl, hb3⟩; have HW3 := Lib.hid (bStep HW.out hb3); clear hb3) | (go_at_call 13; refine (CR.out _ HW3.out).mono ?_; rintro e w4 ⟨rfl, hb4⟩; have HW4 := Lib.hid (bStep HW3.out hb4); have HG4 := Lib.hid (gstep HG.out HW4.out); clear hb4) | (go_at_call 10; refine (works_any _ (HG4.out)).mono ?_; rintro e w9 ⟨rfl, hb9⟩; have HB9 := Lib.hid hb9; clear hb9))
      exact bodyPost_ret (v := .bool true) (by simp only [results, Tryz.results3]; go_simp) rfl ⟨rfl, bStep HW4.out HB9.out⟩
   ·have n2 : (60 : Int) < es.length := by omega
    clear h2
    go_enter Tryz.func3, Tryz.ntmps3
    go_wp2_with (first | (go_at_call 9; refine CB.out.mono ?_; rintro e w1 ⟨rfl, hb1⟩; have HB1 := Lib.hid hb1; have HG1 := Lib.hid (gstep HG.out hb1); clear hb1) | (go_at_call 10; refine (works_any _ (HG1.out)).mono ?_; rintro e w9 ⟨rfl, hb9⟩; have HB9 := Lib.hid hb9; clear hb9))
    exact bodyPost_ret (v := .bool true) (by simp only [results, Tryz.results3]; go_simp) rfl ⟨rfl, bStep HB1.out HB9.out⟩
  ·have n1 : (100 : Int) < name.size := by omega
   clear h1
   go_enter Tryz.func3, Tryz.ntmps3
   go_wp2_with (first | (go_at_call 9; refine CB.out.mono ?_; rintro e w1 ⟨rfl, hb1⟩; have HB1 := Lib.hid hb1; have HG1 := Lib.hid (gstep HG.out hb1); clear hb1) | (go_at_call 10; refine (works_any _ (HG1.out)).mono ?_; rintro e w9 ⟨rfl, hb9⟩; have HB9 := Lib.hid hb9; clear hb9))
   exact bodyPost_ret (v := .bool true) (by simp only [results, Tryz.results3]; go_simp) rfl ⟨rfl, bStep HB1.out HB9.out⟩
end Go.Proofs.YtmpilgkfbibhlaaGreatDoor
namespace Go.Proofs.YtmpilgkfbibhlaaGreatDoor
open Go.ChangeShapes Go.WideShapes Go.ChangeAt Go.RowKit Go.Deep
theorem wf_u64n {n : Int} (h : (Lit.int .u64 n).wf = true) : ∃ k : Nat, n = (k : Int) ∧ k < 18446744073709551616 := by
 simp only [Lit.wf, Bool.and_eq_true, decide_eq_true_eq] at h
 have h1 : (0 : Int) ≤ n := h.1
 have h2 : n ≤ 18446744073709551615 := h.2
 exact ⟨n.toNat, by omega, by omega⟩
section
variable {H : Type} {enc : TypeId × Value → H} {W : World} {held : Bool}
theorem pads_open {n : Nat} {v : Value} {x : DataW H × List MemPlace} (h : DataW.trod enc Tryz.prog W 0 (fun _ => true) held n 83 [v] = some x) :
  ∃ ns : List Nat, PadV v ns W ∧ ns.length ≤ maxLen ∧ ∀ q ∈ ns, q < 18446744073709551616 := by
 rcases open_ints Tryz.underlying83 Tryz.underlying22 (by kernel_rfl) h with ⟨hcs, _⟩ | ⟨a, len, cap, zs, hcs, hb, hl, hm, hz, hx, hcell, hwf⟩
 ·simp only [List.cons.injEq, and_true] at hcs
  exact ⟨[], ⟨none, 0, hcs, fun hn => absurd rfl hn⟩, by decide, fun q hq => by cases hq⟩
 ·simp only [List.cons.injEq, and_true] at hcs
  simp only [if_true] at hz
  have hlen : ((zs.take len).map Int.toNat).length = len := by simp; omega
  refine ⟨(zs.take len).map Int.toNat, ⟨some a, cap, by rw [hlen]; exact hcs, fun hn => ?_⟩, by rw [hlen]; omega, fun q hq => ?_⟩
  ·have h0 : 0 < len := by
    rcases Nat.eq_zero_or_pos len with e | e
    ·subst e; exact absurd (by simp) hn
    ·exact e
   obtain ⟨b, off, spot⟩ := a
   have hspot : spot = none := by simpa [Addr.add] using World.cell?_spot (hcell 0 (by omega))
   subst hspot
   have hadd : ∀ j, ((⟨b, off, none⟩ : Addr).add j) = ⟨b, off + j, none⟩ := fun j => by simp [Addr.add]
   have hc0 := hcell 0 (by omega)
   refine ⟨b, off, rfl, ?_, fun k q hk => ?_⟩
   ·rw [hadd] at hc0
    exact cell_lt hc0
   ·have hkl : k < len := by have := (List.getElem?_eq_some_iff.1 hk).1; omega
    have hkz : k < zs.length := by omega
    have hc := hcell k hkz
    rw [hadd] at hc
    obtain ⟨r, hr, -⟩ := wf_u64n (hwf _ (List.getElem_mem hkz))
    rw [List.getD_eq_getElem?_getD, List.getElem?_eq_getElem hkz, Option.getD_some, hr] at hc
    rw [List.getElem?_map, List.getElem?_take_of_lt hkl, List.getElem?_eq_getElem hkz, Option.map_some, hr] at hk
    have e : r = q := by simpa using hk
    rw [← e]; exact hc
  ·obtain ⟨z, hz1, rfl⟩ := List.mem_map.1 hq
   obtain ⟨r, hr, hr2⟩ := wf_u64n (hwf z (List.mem_of_mem_take hz1))
   rw [hr]; simpa using hr2
set_option maxRecDepth 20000 in
theorem book_cells {n : Nat} {cs : List Value} {x : DataW H × List MemPlace} (h : DataW.trod enc Tryz.prog W 0 (fun _ => true) held n 85 cs = some x) :
  ∃ (bk : Bk) (vp : Value), cs = [.int .u64 (bk.1 : Int), vp] ∧ PadV vp bk.2 W ∧ bk.1 < 18446744073709551616 ∧ bk.2.length ≤ maxLen ∧ ∀ q ∈ bk.2, q < 18446744073709551616 := by
 obtain ⟨xs, k, hk, hxy, hcl, hxl, hf⟩ := DataW.trod_struct Tryz.underlying85 h
 rw [show Tryz.prog.cellsOf 85 = 2 by kernel_rfl] at hcl
 match xs, hxl, cs, hcl with
 | [y0, y1], _, [v0, v1], _ =>
  have g0 := hf 0 _ rfl
  have g1 := hf 1 _ rfl
  have k0 : Tryz.prog.cellsOf 22 = 1 := by kernel_rfl
  have k1 : Tryz.prog.cellsOf 83 = 1 := by kernel_rfl
  simp only [List.getElem_toArray, List.getElem_cons_zero, List.getElem_cons_succ] at g0 g1
  rw [k0] at g0
  rw [k1] at g1
  simp only [List.drop_zero, List.drop_succ_cons, List.take_succ_cons, List.take_zero, List.getElem?_cons_zero, List.getElem?_cons_succ] at g0 g1
  obtain ⟨a0, b0, -, w0⟩ := DataW.trod_int Tryz.underlying22 g0
  obtain ⟨p, hp, hp2⟩ := wf_u64n w0
  obtain ⟨ns, hn1, hn2, hn3⟩ := pads_open g1
  simp only [List.cons.injEq, and_true] at b0
  subst b0
  exact ⟨(p, ns), v1, by rw [hp], hn1, hp2, hn2, hn3⟩
set_option maxRecDepth 20000 in
theorem evt_cells {n : Nat} {cs : List Value} {x : DataW H × List MemPlace} (h : DataW.trod enc Tryz.prog W 0 (fun _ => true) held n 29 cs = some x) : ∃ e : Evt, cs = evtC e := by
 obtain ⟨xs, k, hk, hxy, hcl, hxl, hf⟩ := DataW.trod_struct Tryz.underlying29 h
 rw [show Tryz.prog.cellsOf 29 = 6 by kernel_rfl] at hcl
 match xs, hxl, cs, hcl with
 | [y0, y1, y2, y3, y4, y5], _, [v0, v1, v2, v3, v4, v5], _ =>
  have g0 := hf 0 _ rfl
  have g1 := hf 1 _ rfl
  have g2 := hf 2 _ rfl
  have g3 := hf 3 _ rfl
  have g4 := hf 4 _ rfl
  have g5 := hf 5 _ rfl
  have k0 : Tryz.prog.cellsOf 3 = 1 := by kernel_rfl
  have k1 : Tryz.prog.cellsOf 2 = 1 := by kernel_rfl
  have k2 : Tryz.prog.cellsOf 9 = 1 := by kernel_rfl
  simp only [List.getElem_toArray, List.getElem_cons_zero, List.getElem_cons_succ] at g0 g1 g2 g3 g4 g5
  rw [k0] at g0
  rw [k1] at g1 g2 g3
  rw [k2] at g4 g5
  simp only [List.drop_zero, List.drop_succ_cons, List.take_succ_cons, List.take_zero, List.getElem?_cons_zero, List.getElem?_cons_succ] at g0 g1 g2 g3 g4 g5
  obtain ⟨a0, b0, -, -⟩ := DataW.trod_int Tryz.underlying3 g0
  obtain ⟨a1, b1, -, -⟩ := DataW.trod_int Tryz.underlying2 g1
  obtain ⟨a2, b2, -, -⟩ := DataW.trod_int Tryz.underlying2 g2
  obtain ⟨a3, b3, -, -⟩ := DataW.trod_int Tryz.underlying2 g3
  obtain ⟨a4, b4, -, -⟩ := DataW.trod_string Tryz.underlying9 g4
  obtain ⟨a5, b5, -, -⟩ := DataW.trod_string Tryz.underlying9 g5
  simp only [List.cons.injEq, and_true] at b0 b1 b2 b3 b4 b5
  subst b0 b1 b2 b3 b4 b5
  exact ⟨(a0, a1, a2, a3, a4, a5), rfl⟩
set_option maxRecDepth 20000 in
theorem ent_cells {n : Nat} {cs : List Value} {x : DataW H × List MemPlace} (h : DataW.trod enc Tryz.prog W 0 (fun _ => true) held n 31 cs = some x) : ∃ y : Ent, cs = entC y ∧ y.2.2.2.1 < 18446744073709551616 ∧ y.2.2.2.2 < 18446744073709551616 := by
 obtain ⟨xs, k, hk, hxy, hcl, hxl, hf⟩ := DataW.trod_struct Tryz.underlying31 h
 rw [show Tryz.prog.cellsOf 31 = 10 by kernel_rfl] at hcl
 match xs, hxl, cs, hcl with
 | [y0, y1, y2, y3, y4], _, [v0, v1, v2, v3, v4, v5, v6, v7, v8, v9], _ =>
  have g0 := hf 0 _ rfl
  have g1 := hf 1 _ rfl
  have g2 := hf 2 _ rfl
  have g3 := hf 3 _ rfl
  have g4 := hf 4 _ rfl
  have k0 : Tryz.prog.cellsOf 29 = 6 := by kernel_rfl
  have k1 : Tryz.prog.cellsOf 3 = 1 := by kernel_rfl
  have k2 : Tryz.prog.cellsOf 22 = 1 := by kernel_rfl
  simp only [List.getElem_toArray, List.getElem_cons_zero, List.getElem_cons_succ] at g0 g1 g2 g3 g4
  rw [k0] at g0
  rw [k1] at g1 g2
  rw [k2] at g3 g4
  simp only [List.drop_zero, List.drop_succ_cons, List.take_succ_cons, List.take_zero, List.getElem?_cons_zero, List.getElem?_cons_succ] at g0 g1 g2 g3 g4
  obtain ⟨e, he⟩ := evt_cells g0
  obtain ⟨k, t, a, b, nm, ot⟩ := e
  obtain ⟨a1, b1, -, -⟩ := DataW.trod_int Tryz.underlying3 g1
  obtain ⟨a2, b2, -, -⟩ := DataW.trod_int Tryz.underlying3 g2
  obtain ⟨a3, b3, -, w3⟩ := DataW.trod_int Tryz.underlying22 g3
  obtain ⟨a4, b4, -, w4⟩ := DataW.trod_int Tryz.underlying22 g4
  obtain ⟨p3, hp3, hq3⟩ := wf_u64n w3
  obtain ⟨p4, hp4, hq4⟩ := wf_u64n w4
  simp only [evtC, List.cons.injEq, and_true] at he b1 b2 b3 b4
  obtain ⟨e0, e1, e2, e3, e4, e5⟩ := he
  subst e0 e1 e2 e3 e4 e5 b1 b2 b3 b4
  exact ⟨((k, t, a, b, nm, ot), a1, a2, p3, p4), by rw [hp3, hp4]; rfl, hq3, hq4⟩
theorem rows_open {α : Type} [Inhabited α] {n sz : Nat} {T E : TypeId} {v : Value} {x : DataW H × List MemPlace} {cells : α → List Value} {Ok : α → Prop} (hT : Tryz.prog.underlying T = some (.slice E)) (hE : Tryz.prog.cellsOf E = sz) (hsz : 0 < sz)
  (each : ∀ {m : Nat} {cs : List Value} {y : DataW H × List MemPlace}, DataW.trod enc Tryz.prog W 0 (fun _ => true) held m E cs = some y → ∃ q : α, cs = cells q ∧ Ok q)
  (h : DataW.trod enc Tryz.prog W 0 (fun _ => true) held n T [v] = some x) :
  ∃ (a : Option Addr) (c : Nat) (l : List α), v = .slice a l.length c ∧ l.length ≤ c ∧ c ≤ maxLen ∧ (∀ q ∈ l, Ok q) ∧ (l ≠ [] → ∃ b off, a = some ⟨b, off, none⟩ ∧ b < W.heap.size ∧ ∀ (k : Nat) (q : α), l[k]? = some q → ∀ (j : Nat) (u : Value), (cells q)[j]? = some u → W.cell? ⟨b, off + k * sz + j, none⟩ = some u) := by
 rcases open_slice hT h with ⟨hcs, _⟩ | ⟨a, len, cap, m, n', D, Pl, hcs, hb, hl, hm, hmm, hx, hi⟩
 ·simp only [List.cons.injEq, and_true] at hcs
  exact ⟨none, 0, [], hcs, Nat.le_refl _, by decide, (fun q hq => by cases hq), fun hn => absurd rfl hn⟩
 ·simp only [List.cons.injEq, and_true] at hcs
  simp only [if_true] at hmm
  subst hmm
  rw [hE] at hi
  have each2 : ∀ i, i < len → ∃ q : α, Ok q ∧ (cells q).length = sz ∧ ∀ j, j < sz → W.cell? ((a.add (i * sz)).add j) = (cells q)[j]? := by
   intro i hlt
   obtain ⟨cs', h1, h2⟩ := hi i (by omega)
   obtain ⟨q, hq, hok⟩ := each h2
   obtain ⟨_, hlen, hc⟩ := World.cells?_some h1
   rw [hq] at hlen hc
   exact ⟨q, hok, hlen, hc⟩
  obtain ⟨f, hf⟩ := choose_lt each2
  have hlen : ((List.range len).map f).length = len := by simp
  refine ⟨some a, m, (List.range len).map f, by rw [hlen]; exact hcs, by rw [hlen]; exact hl, hm, fun q hq => ?_, fun hn => ?_⟩
  ·obtain ⟨i, hi2, rfl⟩ := List.mem_map.1 hq
   exact (hf i (List.mem_range.1 hi2)).1
  ·have h0 : 0 < len := by
    rcases Nat.eq_zero_or_pos len with e | e
    ·subst e; exact absurd rfl hn
    ·exact e
   obtain ⟨b, off, spot⟩ := a
   obtain ⟨-, hl0, hc0⟩ := hf 0 h0
   have hc00 := hc0 0 hsz
   rw [List.getElem?_eq_getElem (by omega)] at hc00
   have hspot : spot = none := by simpa [Addr.add] using World.cell?_spot hc00
   subst hspot
   have hadd : ∀ i j, (((⟨b, off, none⟩ : Addr).add i).add j) = ⟨b, off + i + j, none⟩ := fun i j => by rw [Addr.add_mid, Addr.add_mid]
   refine ⟨b, off, rfl, ?_, fun k q hk j u hj => ?_⟩
   ·rw [hadd] at hc00
    exact cell_lt hc00
   ·have hkl : k < len := by have := (List.getElem?_eq_some_iff.1 hk).1; omega
    have e : f k = q := by
     rw [List.getElem?_map, List.getElem?_range hkl] at hk
     simpa using hk
    subst e
    obtain ⟨-, hlk, hck⟩ := hf k hkl
    have hjl : j < sz := by have := (List.getElem?_eq_some_iff.1 hj).1; omega
    rw [← hadd, hck j hjl, hj]
theorem entries_open {n : Nat} {v : Value} {x : DataW H × List MemPlace} (h : DataW.trod enc Tryz.prog W 0 (fun _ => true) held n 24 [v] = some x) :
  ∃ (a : Option Addr) (c : Nat) (es : List Ent), v = .slice a es.length c ∧ es.length ≤ c ∧ c ≤ maxLen ∧ (∀ y ∈ es, y.2.2.2.1 < 18446744073709551616 ∧ y.2.2.2.2 < 18446744073709551616) ∧ EntAt a es W :=
 rows_open (cells := entC) (Ok := fun y => y.2.2.2.1 < 18446744073709551616 ∧ y.2.2.2.2 < 18446744073709551616) Tryz.underlying24 (by kernel_rfl) (by decide) (fun h => ent_cells h) h
theorem books_open {n : Nat} {v : Value} {x : DataW H × List MemPlace} (h : DataW.trod enc Tryz.prog W 0 (fun _ => true) held n 23 [v] = some x) :
  ∃ (a : Option Addr) (c : Nat) (bks : List Bk), v = .slice a bks.length c ∧ bks.length ≤ c ∧ c ≤ maxLen ∧ (∀ bk ∈ bks, bk.1 < 18446744073709551616 ∧ bk.2.length ≤ maxLen ∧ ∀ q ∈ bk.2, q < 18446744073709551616) ∧ BksAt a bks W := by
 haveI : Inhabited (Bk × Value) := ⟨((0, []), .bool false)⟩
 obtain ⟨a, c, l, h1, h2, h3, h4, h5⟩ := rows_open (α := Bk × Value) (cells := fun q => [.int .u64 (q.1.1 : Int), q.2]) (Ok := fun q => PadV q.2 q.1.2 W ∧ q.1.1 < 18446744073709551616 ∧ q.1.2.length ≤ maxLen ∧ ∀ z ∈ q.1.2, z < 18446744073709551616) (sz := 2) Tryz.underlying23 (by kernel_rfl) (by decide)
  (fun h => by obtain ⟨bk, vp, e1, e2⟩ := book_cells h; exact ⟨(bk, vp), e1, e2⟩) h
 have hl : (l.map (·.1)).length = l.length := List.length_map _
 refine ⟨a, c, l.map (·.1), by rw [hl]; exact h1, by rw [hl]; exact h2, h3, fun bk hbk => ?_, fun hn => ?_⟩
 ·obtain ⟨q, hq, rfl⟩ := List.mem_map.1 hbk
  exact (h4 q hq).2
 ·obtain ⟨b, off, e1, e2, e3⟩ := h5 (by rintro rfl; exact hn rfl)
  refine ⟨b, off, e1, e2, fun k bk hk => ?_⟩
  rw [List.getElem?_map] at hk
  cases hq : l[k]? with
  | none => rw [hq] at hk; cases hk
  | some q =>
   rw [hq] at hk
   have e : q.1 = bk := by simpa using hk
   subst e
   exact ⟨e3 k q hq 0 _ rfl, q.2, e3 k q hq 1 _ rfl, (h4 q (List.mem_of_getElem? hq)).1⟩
end
end Go.Proofs.YtmpilgkfbibhlaaGreatDoor
