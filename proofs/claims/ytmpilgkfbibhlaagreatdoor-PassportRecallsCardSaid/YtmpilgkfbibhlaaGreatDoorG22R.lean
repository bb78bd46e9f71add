/-
 Registry: find, where.
-/
import Derived.Test.YtmpilgkfbibhlaaGreatDoorG21R
import Derived.Test.YtmpilgkfbibhlaaGreatDoorG15R
import Derived.Deep.Cut
import Derived.Test.YtmpilgkfbibhlaaGreatDoorG0R
set_option linter.unusedSimpArgs false
set_option linter.unusedVariables false
namespace Go.Proofs.YtmpilgkfbibhlaaGreatDoor
open Sx Go.RowKit Mr
def findK (nm : ByteArray) (qs : List PkV) : Nat := qs.findIdx fun q => eqT q.nm nm
def whereK (m : ByteArray) (qs : List PkV) : Nat := qs.findIdx fun q => hasT q.life.ms m
def ptrK (vp : Value) (n i : Nat) : Value := match vp with
 | .slice (some a) _ _ => if i < n then .pointer (some ⟨a.block, i * 20, none⟩) else .pointer none
 | _ => .pointer none
theorem find_here {p : PkV → Bool} {qs : List PkV} {i : Nat} {q : PkV} (h : ∀ j, j < i → ∀ q, qs[j]? = some q → p q = false) (hq : qs[i]? = some q) (hp : p q = true) : qs.findIdx p = i := by
 have hi := (List.getElem?_eq_some_iff.1 hq).1
 rw [List.findIdx_eq hi]
 refine ⟨by rw [List.getElem?_eq_getElem hi] at hq; rw [Option.some.inj hq]; exact hp, fun j hj => ?_⟩
 have := h j hj (qs[j]'(by omega)) (List.getElem?_eq_getElem _)
 simpa using this
theorem find_none {p : PkV → Bool} {qs : List PkV} (h : ∀ j, j < qs.length → ∀ q, qs[j]? = some q → p q = false) : qs.findIdx p = qs.length := by
 rw [List.findIdx_eq_length]
 intro q hq
 obtain ⟨j, hj, rfl⟩ := List.getElem_of_mem hq
 simpa using h j hj _ (List.getElem?_eq_getElem hj)
set_option maxHeartbeats 2000000 in
set_option maxRecDepth 20000 in
theorem find_any {B R : Nat} {g : RegS} {vb vp : Value} {w : World} (h : RegAt B R g vb vp w) (nm : ByteArray) (hl : g.qs.length ≤ 1000000) : Calls Tryz.prog 57 #[.pointer (some ⟨R, 0, none⟩), .string nm] w fun e w' => e = .returned (ptrK vp g.qs.length (findK nm g.qs)) ∧ Below w.heap.size w w' := by
 have H := Lib.hid h
 have hvp : ∃ pa cp, vp = .slice pa g.qs.length cp := by
  obtain ⟨-, h2⟩ := h.row
  rcases h2 with ⟨e1, e2⟩ | ⟨PB, cp, cur, q1, -⟩
  ·exact ⟨none, 0, by rw [e1, e2]⟩
  ·exact ⟨_, cp, q1⟩
 obtain ⟨pa, cp, rfl⟩ := hvp
 have G10 : Hid (w.cell? ⟨R, 10, none⟩ = some (.slice pa g.qs.length cp)) := by
  refine blk_cell h.reg ?_
  have e8 := h.u8
  simp [regC, e8]
 have hR := blk_lt h.reg
 have g10 := G10.out
 clear h
 go_enter Tryz.func57, Tryz.ntmps57
 go_wp2_with fail
 clear g10 hR
 go_loopw [5, 11] (fun _ ix wr => ∃ i : Nat, i ≤ g.qs.length ∧ ix = .int .i64 i ∧ Hid (∀ j, j < i → ∀ q, g.qs[j]? = some q → (fun q => eqT q.nm nm) q = false) ∧ Hid (Below w.heap.size w wr)) (fun _ ix _ => g.qs.length - (intOf ix).toNat)
 case atStart => exact ⟨0, by omega, rfl, (fun j hj => absurd hj (Nat.not_lt_zero j)), Below.refl _ _⟩
 case round =>
  obtain ⟨i, hi, rfl, HQ, HW⟩ := hrel
  have HG := Lib.hid (H.out.step HW.out)
  have g10 : wr.cell? ⟨R, 10, none⟩ = some (.slice pa g.qs.length cp) := cell_step G10.out HW.out
  have hR := blk_lt HG.out.reg
  by_cases hc : i < g.qs.length
  ·have c1 : (i : Int) < g.qs.length := by omega
   have c0 : (0 : Int) ≤ i := by omega
   obtain ⟨q, hk⟩ : ∃ q, g.qs[i]? = some q := ⟨g.qs[i], List.getElem?_eq_getElem hc⟩
   obtain ⟨PB, cp2, cur, ea, hPB, hb, -⟩ := HG.out.packs (by rintro e; rw [e] at hc; simp at hc)
   cases ea
   obtain ⟨hL, -, -⟩ := HG.out.life rfl hk
   have HK := Lib.hid hk
   have HL := Lib.hid hL
   have hPl := blk_lt hb
   have n0 := HL.out.open1.1
   clear hk hL hb hPB
   by_cases he : (q.nm.toList == nm.toList) = true
   ·have HF : Hid (findK nm g.qs = i) := find_here HQ.out HK.out he
    have HCI := Lib.hid hc
    clear hc
    go_wp2_with fail
    exact bodyPost_ret (v := .pointer (some ⟨PB, i * 20, none⟩)) (by simp only [results, Tryz.results57]; go_simp) rfl ⟨by rw [HF.out]; unfold ptrK; dsimp only; rw [if_pos HCI.out], HW.out⟩
   ·have he2 : (q.nm.toList == nm.toList) = false := by simpa using he
    clear he
    have HQ2 : Hid (∀ j, j < i + 1 → ∀ q, g.qs[j]? = some q → (fun q => eqT q.nm nm) q = false) := fun j hj q9 hq9 => by
     by_cases c : j < i
     ·exact HQ.out j c q9 hq9
     ·obtain rfl : j = i := by omega
      rw [HK.out] at hq9
      cases hq9
      exact he2
    clear hc
    go_wp2_with fail
    exact ⟨⟨i + 1, by omega, by push_cast; rfl, HQ2, HW⟩, by simp [intOf]; omega⟩
  ·obtain rfl : i = g.qs.length := by omega
   have HF : Hid (findK nm g.qs = g.qs.length) := find_none HQ.out
   clear hc
   go_wp2_with fail
   exact bodyPost_ret (v := .pointer none) (by simp only [results, Tryz.results57]; go_simp) rfl ⟨by rw [HF.out]; unfold ptrK; split <;> simp, HW.out⟩
set_option maxHeartbeats 2000000 in
set_option maxRecDepth 20000 in
theorem where_any {B R : Nat} {g : RegS} {vb vp : Value} {w : World} (h : RegAt B R g vb vp w) (nm : ByteArray) (hl : g.qs.length ≤ 1000000) (hm : ∀ q ∈ g.qs, q.life.ms.length ≤ 1000000) : Calls Tryz.prog 68 #[.pointer (some ⟨R, 0, none⟩), .string nm] w fun e w' => e = .returned (ptrK vp g.qs.length (whereK nm g.qs)) ∧ Below w.heap.size w w' := by
 have H := Lib.hid h
 have hvp : ∃ pa cp, vp = .slice pa g.qs.length cp := by
  obtain ⟨-, h2⟩ := h.row
  rcases h2 with ⟨e1, e2⟩ | ⟨PB, cp, cur, q1, -⟩
  ·exact ⟨none, 0, by rw [e1, e2]⟩
  ·exact ⟨_, cp, q1⟩
 obtain ⟨pa, cp, rfl⟩ := hvp
 have G10 : Hid (w.cell? ⟨R, 10, none⟩ = some (.slice pa g.qs.length cp)) := by
  refine blk_cell h.reg ?_
  have e8 := h.u8
  simp [regC, e8]
 have hR := blk_lt h.reg
 have g10 := G10.out
 clear h
 go_enter Tryz.func68, Tryz.ntmps68
 go_wp2_with fail
 clear g10 hR
 go_loopw [5, 11] (fun _ ix wr => ∃ i : Nat, i ≤ g.qs.length ∧ ix = .int .i64 i ∧ Hid (∀ j, j < i → ∀ q, g.qs[j]? = some q → (fun q => hasT q.life.ms nm) q = false) ∧ Hid (Below w.heap.size w wr)) (fun _ ix _ => g.qs.length - (intOf ix).toNat)
 case atStart => exact ⟨0, by omega, rfl, (fun j hj => absurd hj (Nat.not_lt_zero j)), Below.refl _ _⟩
 case round =>
  obtain ⟨i, hi, rfl, HQ, HW⟩ := hrel
  have HG := Lib.hid (H.out.step HW.out)
  have g10 : wr.cell? ⟨R, 10, none⟩ = some (.slice pa g.qs.length cp) := cell_step G10.out HW.out
  have hR := blk_lt HG.out.reg
  by_cases hc : i < g.qs.length
  ·have c1 : (i : Int) < g.qs.length := by omega
   have c0 : (0 : Int) ≤ i := by omega
   obtain ⟨q, hk⟩ : ∃ q, g.qs[i]? = some q := ⟨g.qs[i], List.getElem?_eq_getElem hc⟩
   obtain ⟨PB, cp2, cur, ea, hPB, hb, -⟩ := HG.out.packs (by rintro e; rw [e] at hc; simp at hc)
   cases ea
   obtain ⟨hL, -, -⟩ := HG.out.life rfl hk
   have HK := Lib.hid hk
   have HL := Lib.hid hL
   have hPl := blk_lt hb
   have n9 := HL.out.open1.2.2.2.1
   have CH := Lib.hid (has_any HL.out.ms (hm q (List.mem_of_getElem? hk)) nm)
   clear hk hL hb hPB
   cases he : hasT q.life.ms nm
   rotate_left
   ·rw [he] at CH
    have HF : Hid (whereK nm g.qs = i) := find_here HQ.out HK.out he
    have HCI := Lib.hid hc
    clear hc
    go_wp2_with (go_at_call 99; refine CH.out.mono ?_; rintro e w5 ⟨rfl, rfl⟩)
    exact bodyPost_ret (v := .pointer (some ⟨PB, i * 20, none⟩)) (by simp only [results, Tryz.results68]; go_simp) rfl ⟨by rw [HF.out]; unfold ptrK; dsimp only; rw [if_pos HCI.out], HW.out⟩
   ·rw [he] at CH
    have HQ2 : Hid (∀ j, j < i + 1 → ∀ q, g.qs[j]? = some q → (fun q => hasT q.life.ms nm) q = false) := fun j hj q9 hq9 => by
     by_cases c : j < i
     ·exact HQ.out j c q9 hq9
     ·obtain rfl : j = i := by omega
      rw [HK.out] at hq9
      cases hq9
      exact he
    clear hc
    go_wp2_with (go_at_call 99; refine CH.out.mono ?_; rintro e w5 ⟨rfl, rfl⟩)
    exact ⟨⟨i + 1, by omega, by push_cast; rfl, HQ2, HW⟩, by simp [intOf]; omega⟩
  ·obtain rfl : i = g.qs.length := by omega
   have HF : Hid (whereK nm g.qs = g.qs.length) := find_none HQ.out
   clear hc
   go_wp2_with fail
   exact bodyPost_ret (v := .pointer none) (by simp only [results, Tryz.results68]; go_simp) rfl ⟨by rw [HF.out]; unfold ptrK; split <;> simp, HW.out⟩
end Go.Proofs.YtmpilgkfbibhlaaGreatDoor
namespace Go.Proofs.YtmpilgkfbibhlaaGreatDoor
open Sx Go.RowKit Mr
def leftR (g : RegS) (b : Int) : Int := if 0 ≤ b ∧ b < g.bks.length then ((g.bks.getD b.toNat (0, [])).2.length : Int) - (g.used.getD b.toNat 0 : Nat) else 0
structure RegOk (g : RegS) : Prop where
 sec : secR g.pt g.bks = 0
 us : ∀ k, g.used.getD k 0 ≤ 5000
 np : g.qs.length ≤ 100
 q : ∀ q ∈ g.qs, q.es.length ≤ 500 ∧ LegH q.nm (evsOf q.es) ∧ (∀ e ∈ evsOf q.es, okX e = true) ∧ q.nm.size ≤ 20 ∧ q.life = lifeOf q.nm (evsOf q.es) ∧ q.hd = headOf g.pt q.nm q.es
theorem RegOk.pt {g : RegS} (h : RegOk g) : 1 ≤ g.pt ∧ g.pt < P31 := (secR_ok h.sec).1
section
variable {B R : Nat} {g : RegS} {vb vp : Value} {W : World}
theorem RegAt.cells (h : RegAt B R g vb vp W) : W.cell? ⟨R, 0, none⟩ = some (.int .u64 (g.pt : Int)) ∧ W.cell? ⟨R, 1, none⟩ = some vb ∧ W.cell? ⟨R, 10, none⟩ = some vp ∧ R < W.heap.size ∧ ∀ k, k < 8 → W.cell? ⟨R, 2 + k, none⟩ = some (.int .i64 (g.used.getD k 0 : Nat)) := by
 have e8 := h.u8
 refine ⟨blk_cell h.reg (by simp [regC]), blk_cell h.reg (by simp [regC]), blk_cell h.reg (by simp [regC, e8]), blk_lt h.reg, fun k hk => blk_cell h.reg ?_⟩
 have h1 : (regC g vb vp)[2 + k]? = (g.used.map (fun n : Nat => Value.int .i64 (n : Int)) ++ [vp])[k]? := by
  unfold regC
  rw [List.append_assoc, List.getElem?_append_right (by simp)]
  congr 1
  simp
 have hku : k < g.used.length := by omega
 rw [List.getElem?_toArray, h1, List.getElem?_append_left (by simpa using hku), List.getElem?_map, List.getD_eq_getElem?_getD, List.getElem?_eq_getElem hku]
 rfl
end
set_option maxHeartbeats 1000000 in
theorem valid_any {B R : Nat} {g : RegS} {vb vp : Value} {w : World} (h : RegAt B R g vb vp w) (hp : 1 ≤ g.pt) : Calls Tryz.prog 56 #[.pointer (some ⟨R, 0, none⟩)] w fun e w' => e = .returned (.bool true) ∧ Below w.heap.size w w' := by
 obtain ⟨c0, -, -, cl, -⟩ := h.cells
 have hn : ((g.pt : Int) == 0) = false := by simp; omega
 have hn2 : ((g.pt : Int) != 0) = true := by simp; omega
 clear h hp
 go_enter Tryz.func56, Tryz.ntmps56
 go_wp2_with fail
 exact bodyPost_ret (v := .bool true) (by simp only [results, Tryz.results56]; go_simp) rfl ⟨rfl, (by repeat' (first | exact Below.refl _ _ | assumption | apply bDrewN | apply bDrew | apply bAlloc | (refine bSet ?_ ?_ _) | (refine bStep ?_ (by assumption)) | omega | (simp <;> omega)))⟩
set_option maxHeartbeats 1000000 in
theorem book_any {B R : Nat} {g : RegS} {vb vp : Value} {w : World} (h : RegAt B R g vb vp w) (b : Int) : Calls Tryz.prog 59 #[.pointer (some ⟨R, 0, none⟩), .int .i64 b] w fun e w' => e = .returned (.bool (decide (0 ≤ b ∧ b < g.bks.length))) ∧ Below w.heap.size w w' := by
 obtain ⟨-, c1, -, cl, -⟩ := h.cells
 obtain ⟨ab, cb, rfl, -⟩ := h.bk
 by_cases h0 : 0 ≤ b
 ·by_cases h1 : b < g.bks.length
  ·rw [decide_eq_true ⟨h0, h1⟩]
   have h2 : b ≥ 0 := h0
   clear h
   go_enter Tryz.func59, Tryz.ntmps59
   go_wp2_with fail
   exact bodyPost_ret (v := .bool true) (by simp only [results, Tryz.results59]; go_simp) rfl ⟨rfl, (by repeat' (first | exact Below.refl _ _ | assumption | apply bDrewN | apply bDrew | apply bAlloc | (refine bSet ?_ ?_ _) | (refine bStep ?_ (by assumption)) | omega | (simp <;> omega)))⟩
  ·rw [decide_eq_false (fun e => h1 e.2)]
   clear h
   go_enter Tryz.func59, Tryz.ntmps59
   go_wp2_with fail
   exact bodyPost_ret (v := .bool false) (by simp only [results, Tryz.results59]; go_simp) rfl ⟨rfl, (by repeat' (first | exact Below.refl _ _ | assumption | apply bDrewN | apply bDrew | apply bAlloc | (refine bSet ?_ ?_ _) | (refine bStep ?_ (by assumption)) | omega | (simp <;> omega)))⟩
 ·rw [decide_eq_false (fun e => h0 e.1)]
  have h2 : b < 0 := by omega
  clear h
  go_enter Tryz.func59, Tryz.ntmps59
  go_wp2_with fail
  exact bodyPost_ret (v := .bool false) (by simp only [results, Tryz.results59]; go_simp) rfl ⟨rfl, (by repeat' (first | exact Below.refl _ _ | assumption | apply bDrewN | apply bDrew | apply bAlloc | (refine bSet ?_ ?_ _) | (refine bStep ?_ (by assumption)) | omega | (simp <;> omega)))⟩
set_option maxHeartbeats 4000000 in
set_option maxRecDepth 20000 in
theorem Left_any {B R : Nat} {g : RegS} {vb vp : Value} {w : World} (h : RegAt B R g vb vp w) (ho : RegOk g) (b : Int) : Calls Tryz.prog 17 #[.pointer (some ⟨R, 0, none⟩), .int .i64 b] w fun e w' => e = .returned (.int .i64 (leftR g b)) ∧ Below w.heap.size w w' := by
 have CV := Lib.hid (fun W (hW : Below w.heap.size w W) => valid_any (h.step hW) ho.pt.1)
 have CB := Lib.hid (fun W (hW : Below w.heap.size w W) => book_any (h.step hW) b)
 obtain ⟨hb1, hb8, hbk⟩ := secR_ok ho.sec
 by_cases hin : 0 ≤ b ∧ b < g.bks.length
 ·unfold leftR
  rw [if_pos hin]
  obtain ⟨h0, h1⟩ := hin
  rw [decide_eq_true ⟨h0, h1⟩] at CB
  obtain ⟨n, rfl⟩ := Int.eq_ofNat_of_zero_le h0
  have h2 : n < g.bks.length := by omega
  have h8 : n < 8 := by omega
  obtain ⟨c0, c1, -, cl, cu⟩ := h.cells
  obtain ⟨ab, cb, rfl, hB0⟩ := h.bk
  have hB := hB0.at_
  obtain ⟨bk, hk⟩ : ∃ bk, g.bks[n]? = some bk := ⟨g.bks[n], List.getElem?_eq_getElem h2⟩
  obtain ⟨bb, ob, rfl, hbb, hbc⟩ := hB (by rintro e; rw [e] at h2; simp at h2)
  obtain ⟨-, vq, s1, ap, cp, rfl, -⟩ := hbc n bk hk
  have hu := cu n h8
  have hus := ho.us n
  have hpl := (hbk bk (List.mem_of_getElem? hk)).2.1
  have HV : Hid (((g.bks.getD (n : Int).toNat (0, [])).2.length : Int) - (g.used.getD (n : Int).toNat 0 : Nat) = (bk.2.length : Int) - (g.used.getD n 0 : Nat)) := by
   unfold Hid
   rw [Int.toNat_natCast, List.getD_eq_getElem?_getD (l := g.bks), hk]
   rfl
  rw [HV.out]
  generalize g.used.getD n 0 = un at *
  have hw : IntKind.i64.wrap ((bk.2.length : Int) - (un : Int)) = (bk.2.length : Int) - (un : Int) := Go.IntWalk.i64_in _ ⟨by omega, by omega⟩
  have h8i : (n : Int) < 8 := by omega
  have HC := Lib.hid (And.intro c1 (And.intro hu s1))
  clear h hB hB0 hbc cu c0 hb1 hb8 hbk ho hk hus hpl HV c1 hu s1
  go_enter Tryz.func17, Tryz.ntmps17
  go_upto_region 3 with (first | (go_at_call 56; refine (CV.out _ (Below.refl _ _)).mono ?_; rintro e w1 ⟨rfl, hb1⟩; have HB1 := Lib.hid hb1; clear hb1) | (go_at_call 59; refine (CB.out _ HB1.out).mono ?_; rintro e w2 ⟨rfl, hb2⟩; have HB2 := Lib.hid (bStep HB1.out hb2); clear hb2))
  have d1 : ∀ s : WStep w2, s.1.cell? ⟨R, 1, none⟩ = some (.slice (some ⟨bb, ob, none⟩) g.bks.length cb) := fun s => cell_step HC.out.1 (bStep HB2.out s.2)
  have d2 : ∀ s : WStep w2, s.1.cell? ⟨R, 2 + n, none⟩ = some (.int .i64 (un : Int)) := fun s => cell_step HC.out.2.1 (bStep HB2.out s.2)
  have d3 : ∀ s : WStep w2, s.1.cell? ⟨bb, ob + n * 2 + 1, none⟩ = some (.slice ap bk.2.length cp) := fun s => cell_step HC.out.2.2 (bStep HB2.out s.2)
  have d4 : ∀ s : WStep w2, R < s.1.heap.size := fun s => Nat.lt_of_lt_of_le cl (bStep HB2.out s.2).size
  refine wp_region_lock (by kernel_rfl) (by kernel_rfl) ?_
  repeat (first | (refine WQ.skip rfl rfl rfl rfl ?_; simp only [Act.put, sl1, sl2, sl3, sl4]) | ((first | (apply WQ.val; (exact rfl)) | (apply WQ.valg; (exact rfl); (exact rfl); (exact rfl))); (intro w9 hw9; obtain ⟨s9, rfl⟩ := hw9; simp [go_sem, d1, d2, d3, d4, h0, h1, h2, h8, h8i, hw]; first | done | exact rfl); simp only [Act.put, sl1, sl2, sl3, sl4]))
  refine WQ.fin fun W4 hW4 => ?_
  go_wp2_with fail
  exact bodyPost_ret (v := .int .i64 ((bk.2.length : Int) - (un : Int))) (by simp only [results, Tryz.results17]; go_simp) rfl ⟨rfl, bStep HB2.out hW4⟩
 ·unfold leftR
  rw [if_neg hin]
  rw [decide_eq_false hin] at CB
  clear h ho hin hb1 hb8 hbk
  go_enter Tryz.func17, Tryz.ntmps17
  go_wp2_with (first | (go_at_call 56; refine (CV.out _ (Below.refl _ _)).mono ?_; rintro e w1 ⟨rfl, hb1⟩; have HB1 := Lib.hid hb1; clear hb1) | (go_at_call 59; refine (CB.out _ HB1.out).mono ?_; rintro e w2 ⟨rfl, hb2⟩; have HB2 := Lib.hid (bStep HB1.out hb2); clear hb2))
  exact bodyPost_ret (v := .int .i64 0) (by simp only [results, Tryz.results17]; go_simp) rfl ⟨rfl, HB2.out⟩
end Go.Proofs.YtmpilgkfbibhlaaGreatDoor
namespace Go.Proofs.YtmpilgkfbibhlaaGreatDoor
open Sx Go.RowKit Mr
theorem own_setT {W : World} {B E sz n P o : Nat} {T : TypeId} {v u : Value} {xs : List Value} {cs : Array Value} {fr : Nat × Nat} (h : W.ownsRow B E sz v n xs) (hc : W.heap[P]? = some (.cells cs T fr)) (hT : T ≠ E) : (W.setCell ⟨P, o, none⟩ u).ownsRow B E sz v n xs := by
 obtain ⟨h1, h2⟩ := h
 refine ⟨h1, ?_⟩
 rcases h2 with h2 | ⟨g, cap, cur, q1, q2, q3, q4⟩
 ·exact Or.inl h2
 ·refine Or.inr ⟨g, cap, cur, q1, q2, blk_set_other q3 (fun e => ?_), q4⟩
  have e2 : g = P := e
  subst e2
  rw [q3] at hc
  simp at hc
  exact hT hc.2.1.symm
theorem own_onlyT {T : TypeId} {PB off m : Nat} {W w2 : World} {B E sz n : Nat} {v : Value} {xs : List Value} (h : W.ownsRow B E sz v n xs) (ho : OnlyB T PB off m W w2) (hT : T ≠ E) : w2.ownsRow B E sz v n xs := by
 obtain ⟨cs, cs', c1, -⟩ := ho.cells
 obtain ⟨h1, h2⟩ := h
 refine ⟨h1, ?_⟩
 rcases h2 with h2 | ⟨g, cap, cur, q1, q2, q3, q4⟩
 ·exact Or.inl h2
 ·refine Or.inr ⟨g, cap, cur, q1, q2, (ho.block g (blk_lt q3) (fun e => ?_)).trans q3, q4⟩
  subst e
  rw [q3] at c1
  simp at c1
  exact hT c1.2.symm
section
variable {B R : Nat} {g : RegS} {vb vp : Value} {W w2 : World}
theorem keepT_set {P o : Nat} {T : TypeId} {u : Value} {cs : Array Value} {fr : Nat × Nat} (hc : W.heap[P]? = some (.cells cs T fr)) (hT : T = 121 ∨ T = 116 ∨ T = 31) : KeepT W (W.setCell ⟨P, o, none⟩ u) := fun b cs2 T2 fr2 e n1 n2 n3 => by
 refine blk_set_other e (fun c => ?_)
 have c2 : b = P := c
 subst c2
 rw [hc] at e
 simp at e
 obtain ⟨-, e2, -⟩ := e
 subst e2
 rcases hT with hT | hT | hT
 ·exact n1 hT
 ·exact n2 hT
 ·exact n3 hT
theorem keepT_only {T : TypeId} {PB off m : Nat} (ho : OnlyB T PB off m W w2) (hT : T = 121 ∨ T = 116 ∨ T = 31) : KeepT W w2 := fun b cs2 T2 fr2 e n1 n2 n3 => by
 obtain ⟨cs, cs', c1, -⟩ := ho.cells
 refine (ho.block b (blk_lt e) (fun c => ?_)).trans e
 subst c
 rw [c1] at e
 simp at e
 obtain ⟨-, e2, -⟩ := e
 subst e2
 rcases hT with hT | hT | hT
 ·exact n1 hT
 ·exact n2 hT
 ·exact n3 hT
theorem regC_used {k u : Nat} (hk : k < g.used.length) : (regC g vb vp).toArray.setIfInBounds (2 + k) (.int .i64 (u : Int)) = (regC { g with used := g.used.set k u } vb vp).toArray := by
 rw [List.setIfInBounds_toArray]
 congr 1
 unfold regC
 simp only [List.cons_append, List.nil_append]
 rw [show 2 + k = k + 1 + 1 by omega, List.set_cons_succ, List.set_cons_succ, List.set_append_left _ _ (by simpa using hk), List.map_set]
theorem RegAt.setUsed (h : RegAt B R g vb vp W) {k u : Nat} (hk : k < 8) : RegAt B R { g with used := g.used.set k u } vb vp (W.setCell ⟨R, 2 + k, none⟩ (.int .i64 (u : Int))) := by
 have hK := keepT_set (o := 2 + k) (u := .int .i64 (u : Int)) h.reg (Or.inl rfl)
 obtain ⟨h1, h2, ⟨ab, cb, h3, h4⟩, h5, h6, h7, h8, h9⟩ := h
 refine ⟨?_, by show (g.used.set k u).length = 8; rw [List.length_set]; exact h2, ⟨ab, cb, h3, hK.books h4⟩, own_setT h5 h1 (by decide), fun q hq => ⟨hK.srow (h6 q hq).1, hK.srow (h6 q hq).2.1, (h6 q hq).2.2⟩, fun q hq => own_setT (h7 q hq) h1 (by decide), h8, h9⟩
 rw [← regC_used (by omega)]
 exact blk_set h1
theorem mem_set {qs : List PkV} {i : Nat} {q' p : PkV} (h : p ∈ qs.set i q') : p = q' ∨ ∃ j, j ≠ i ∧ qs[j]? = some p := by
 obtain ⟨j, hj⟩ := List.getElem?_of_mem h
 by_cases c : j = i
 ·subst c
  have hl : j < qs.length := by have := (List.getElem?_eq_some_iff.1 hj).1; simpa using this
  rw [List.getElem?_set_self hl] at hj
  exact Or.inl (Option.some.inj hj).symm
 ·rw [List.getElem?_set_ne (fun e => c e.symm)] at hj
  exact Or.inr ⟨j, c, hj⟩
theorem RegAt.setPk (h : RegAt B R g vb vp W) {i PB cp : Nat} {q q' : PkV} (hvp : vp = .slice (some ⟨PB, 0, none⟩) g.qs.length cp) (hq : g.qs[i]? = some q) (ho : OnlyB 116 PB (i * 20) 20 W w2) (hc : ∀ (j : Nat) (u : Value), (pkC q')[j]? = some u → w2.cell? ⟨PB, i * 20 + j, none⟩ = some u)
  (hm : SRow q'.vm q'.life.ms w2 ∧ SRow q'.vo q'.life.os w2 ∧ (q'.life.n = 0 → q'.vm = .slice none 0 0 ∧ q'.life.ms = [])) (he : q'.ve = q.ve ∧ q'.es = q.es) : RegAt B R { g with qs := g.qs.set i q' } vb vp w2 := by
 have hK := keepT_only ho (Or.inr (Or.inl rfl))
 have hi := (List.getElem?_eq_some_iff.1 hq).1
 obtain ⟨cs, cs', c1, -⟩ := ho.cells
 obtain ⟨h1, h2, ⟨ab, cb, h3, h4⟩, h5, h6, h7, h8, h9⟩ := h
 have hRP : R ≠ PB := fun e => by
  subst e
  rw [h1] at c1
  exact absurd c1 (by simp)
 have hlen : (g.qs.set i q').length = g.qs.length := List.length_set
 refine ⟨(ho.block R (blk_lt h1) hRP).trans h1, h2, ⟨ab, cb, h3, hK.books h4⟩, ?_, fun p hp => ?_, fun p hp => ?_, fun a b p p2 hab ha hb => ?_, h9⟩
 ·show w2.ownsRow B 116 20 vp (g.qs.set i q').length (flatK (g.qs.set i q'))
  rw [hlen]
  exact row_set h5 rfl (by rw [hvp]; rfl) hi ho hc
 ·rcases mem_set hp with rfl | ⟨j, -, hj⟩
  ·exact hm
  ·have := h6 p (List.mem_of_getElem? hj)
   exact ⟨hK.srow this.1, hK.srow this.2.1, this.2.2⟩
 ·rcases mem_set hp with rfl | ⟨j, -, hj⟩
  ·rw [he.1, he.2]
   exact own_onlyT (h7 q (List.mem_of_getElem? hq)) ho (by decide)
  ·exact own_onlyT (h7 p (List.mem_of_getElem? hj)) ho (by decide)
 ·have key : ∀ (j : Nat) (x : PkV), (g.qs.set i q')[j]? = some x → ∃ y, g.qs[j]? = some y ∧ y.ve = x.ve := fun j x hx => by
   by_cases c : j = i
   ·subst c
    rw [List.getElem?_set_self hi] at hx
    obtain rfl := Option.some.inj hx
    exact ⟨q, hq, he.1.symm⟩
   ·rw [List.getElem?_set_ne (fun e => c e.symm)] at hx
    exact ⟨x, hx, rfl⟩
  obtain ⟨y1, e1, e2⟩ := key a p ha
  obtain ⟨y2, e3, e4⟩ := key b p2 hb
  rw [← e2, ← e4]
  exact h8 a b y1 y2 hab e1 e3
end
end Go.Proofs.YtmpilgkfbibhlaaGreatDoor
