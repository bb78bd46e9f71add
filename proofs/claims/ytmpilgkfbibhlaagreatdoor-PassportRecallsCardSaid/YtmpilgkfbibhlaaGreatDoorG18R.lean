/-
 add at any event that can follow.
-/
import Derived.Test.YtmpilgkfbibhlaaGreatDoorG6R
import Derived.Test.YtmpilgkfbibhlaaGreatDoorG7R
import Derived.Test.YtmpilgkfbibhlaaGreatDoorG17R
import Derived.Test.YtmpilgkfbibhlaaGreatDoorG1R
import Derived.Test.YtmpilgkfbibhlaaGreatDoorG10R
import Derived.Shelf.SlicesE.DeleteFunc
import Derived.Deep.Cut
set_option linter.unusedSimpArgs false
set_option linter.unusedVariables false
namespace Go.Proofs.YtmpilgkfbibhlaaGreatDoor
open Go.RowKit Mr
theorem made_b {t a b : Int} {nm ot : ByteArray} (h : okE 1 t a b nm ot = true) : 0 ≤ b ∧ b ≤ 32 := by
 unfold okE chkE chkB at h
 simp at h
 omega
theorem add_anyN {T : TypeId} {B off : Nat} {name : ByteArray} {x : LifeS} {vm vo : Value} {w : World} (hT : T ≠ 9) (h : LifeAt T B off name x vm vo w) (hB : LifeB x) (hl : x.ms.length ≤ 100000 ∧ x.os.length ≤ 100000) (hnm : name.size ≤ 1000)
  (h0 : x.n = 0 → vm = .slice none 0 0 ∧ x.ms = []) (e : Evt) (hok : okX e = true) (hc : canP name x e = true) :
  Calls Tryz.prog 46 #[.pointer (some ⟨B, off, none⟩), evX e] w fun en w' => en = .returned (.tuple #[]) ∧ ∃ vm' vo', LifeF w T B off name (x.add name e) vm vo vm' vo' w' ∧ OnlyB T B off 18 w w' := by
 obtain ⟨k, t, a, b, nm, ot⟩ := e
 change okE k t a b nm ot = true at hok
 obtain ⟨he, -, -⟩ := okE_ev hok
 have hk := he.k
 have ha := he.a
 have hb := he.b
 clear he
 change 1 ≤ k ∧ k ≤ 9 at hk
 change 0 ≤ a ∧ a ≤ 1099511627776 at ha
 change 0 ≤ b ∧ b ≤ 1099511627776 at hb
 have hk9 : k = 1 ∨ k = 2 ∨ k = 3 ∨ k = 4 ∨ k = 5 ∨ k = 6 ∨ k = 7 ∨ k = 8 ∨ k = 9 := by omega
 unfold canP at hc
 rcases hk9 with rfl | rfl | rfl | rfl | rfl | rfl | rfl | rfl | rfl
 ·by_cases hn : x.n = 0
  ·obtain ⟨e1, e2⟩ := h0 hn
   have hb2 := made_b hok
   exact add1_any hT h hB t a b nm ot hb2 hnm e1 e2
  ·exfalso
   simp [hn, ruleB] at hc
 ·exact add2_any hT h hB t a b nm ot ha hb
 ·exact add3_any hT h hB t a b nm ot
 ·exact add4_any hT h hB t a b nm ot
 ·exact add5_any hT h hB t a b nm ot hl
 ·refine add6_any hT h hB t a b nm ot hl ?_
  by_cases hn : x.n = 0
  ·simp [hn] at hc
  ·simp [hn, ruleB] at hc
   exact hasT_ne hc.2.2.1
 ·exact add7_any hT h hB t a b nm ot hl
 ·refine add8_any hT h hB t a b nm ot hl ?_
  by_cases hn : x.n = 0
  ·simp [hn] at hc
  ·simp [hn, ruleB] at hc
   exact hasT_ne hc.2.2
 ·exact add9_any hT h hB t a b nm ot
theorem add_any {T : TypeId} {B off : Nat} {name : ByteArray} {x : LifeS} {vm vo : Value} {w : World} (hT : T ≠ 9) (h : LifeAt T B off name x vm vo w) (hB : LifeB x) (hl : x.ms.length ≤ 100000 ∧ x.os.length ≤ 100000) (hnm : name.size ≤ 1000)
  (h0 : x.n = 0 → vm = .slice none 0 0 ∧ x.ms = []) (e : Evt) (hok : okX e = true) (hc : canP name x e = true) :
  Calls Tryz.prog 46 #[.pointer (some ⟨B, off, none⟩), evX e] w fun en w' => en = .returned (.tuple #[]) ∧ ∃ vm' vo', LifeAt T B off name (x.add name e) vm' vo' w' ∧ OnlyB T B off 18 w w' :=
 (add_anyN hT h hB hl hnm h0 e hok hc).mono fun en w' r => ⟨r.1, by obtain ⟨vm', vo', q1, q2⟩ := r.2; exact ⟨vm', vo', q1.l, q2⟩⟩
end Go.Proofs.YtmpilgkfbibhlaaGreatDoor
namespace Go.Proofs.YtmpilgkfbibhlaaGreatDoor
open Go.RowKit
def PadV (v : Value) (ns : List Nat) (W : World) : Prop := ∃ a c, v = .slice a ns.length c ∧ (ns ≠ [] → ∃ b off, a = some ⟨b, off, none⟩ ∧ b < W.heap.size ∧ ∀ (k n : Nat), ns[k]? = some n → W.cell? ⟨b, off + k, none⟩ = some (.int .u64 (n : Int)))
theorem PadV.step {v : Value} {ns : List Nat} {W w2 : World} (h : PadV v ns W) (hb : Below W.heap.size W w2) : PadV v ns w2 := by
 obtain ⟨a, c, h1, h2⟩ := h
 refine ⟨a, c, h1, fun hn => ?_⟩
 obtain ⟨b, off, e1, e2, e3⟩ := h2 hn
 exact ⟨b, off, e1, Nat.lt_of_lt_of_le e2 hb.size, fun k n hk => cell_step (e3 k n hk) hb⟩
def BksAt (a : Option Addr) (bks : List Bk) (W : World) : Prop := bks ≠ [] → ∃ b off, a = some ⟨b, off, none⟩ ∧ b < W.heap.size ∧ ∀ (k : Nat) (bk : Bk), bks[k]? = some bk → W.cell? ⟨b, off + k * 2, none⟩ = some (.int .u64 (bk.1 : Int)) ∧ ∃ vp, W.cell? ⟨b, off + k * 2 + 1, none⟩ = some vp ∧ PadV vp bk.2 W
theorem BksAt.step {a : Option Addr} {bks : List Bk} {W w2 : World} (h : BksAt a bks W) (hb : Below W.heap.size W w2) : BksAt a bks w2 := by
 intro hn
 obtain ⟨b, off, e1, e2, e3⟩ := h hn
 refine ⟨b, off, e1, Nat.lt_of_lt_of_le e2 hb.size, fun k bk hk => ?_⟩
 obtain ⟨q1, vp, q2, q3⟩ := e3 k bk hk
 exact ⟨cell_step q1 hb, vp, cell_step q2 hb, q3.step hb⟩
theorem pred94_any (x B : Nat) (W : World) (hc : W.cell? ⟨B, 0, none⟩ = some (.int .u64 2147483647)) :
  Calls Tryz.prog 94 #[.int .u64 (x : Int), .pointer (some ⟨B, 0, none⟩)] W fun e w' => e = .returned (.bool (decide (P31 ≤ x))) ∧ ∃ q, w' = W.drewN q := by
 have hd : decide (P31 ≤ x) = decide ((x : Int) ≥ 2147483647) := by rw [decide_eq_decide]; unfold P31; omega
 rw [hd]
 go_enter Tryz.func94, Tryz.ntmps94
 go_wp2_with fail
 go_ret
 exact ⟨rfl, 0, rfl⟩
theorem padsBad_any {v : Value} {ns : List Nat} {w : World} (B : Nat) (h : PadV v ns w) (hl : ns.length ≤ 1000000) (hB : B < w.heap.size) (hc : w.cell? ⟨B, 0, none⟩ = some (.int .u64 2147483647)) :
  Calls Tryz.prog 93 #[v, .func (.func 94) #[] #[.pointer (some ⟨B, 0, none⟩)]] w fun e w' => e = .returned (.bool (ns.any fun n => decide (P31 ≤ n))) ∧ Below w.heap.size w w' := by
 have eg : ∀ args w, (callFunc 94 args).run Tryz.prog w = .ok (.enter 94 args) w := enters_of Tryz.func94 (by kernel_rfl) rfl
 obtain ⟨a, c, rfl, h2⟩ := h
 by_cases hn : ns = []
 ·subst hn
  exact (AnyE.slices_ContainsFunc_empty laysSlH8_f93 a c _ w).mono fun e w' q => ⟨q.1, by rw [q.2]; exact Below.refl _ _⟩
 ·obtain ⟨b, off, rfl, -, h3⟩ := h2 hn
  have h4 := AnyE.slices_ContainsFunc laysSlH8_f93 (fun n : Nat => Value.int .u64 (n : Int)) (fun n => decide (P31 ≤ n)) 94 #[.pointer (some ⟨B, 0, none⟩)] eg b off ns.length c ns w
   (fun W x hW => pred94_any x B W ((hW.cell (p := ⟨B, 0, none⟩) hB).trans hc)) (Nat.le_refl _) (by omega) (fun j hj => by rw [h3 j _ (List.getElem?_eq_getElem hj)]; rw [getElem!_pos ns j hj])
  rw [List.take_of_length_le (Nat.le_refl _)] at h4
  exact h4.mono fun e w' q => ⟨q.1, by obtain ⟨n, e⟩ := q.2; rw [e]; exact bDrewN (Below.refl _ _)⟩
set_option maxHeartbeats 2000000 in
set_option maxRecDepth 20000 in
theorem badBk_any (bk : Bk) (vp : Value) (B : Nat) (w : World) (h : PadV vp bk.2 w) (hl : bk.2.length ≤ 1000000) (hB : B < w.heap.size) (hc : w.cell? ⟨B, 0, none⟩ = some (.int .u64 2147483647)) :
  Calls Tryz.prog 92 #[.agg #[.int .u64 (bk.1 : Int), vp], .pointer (some ⟨B, 0, none⟩)] w fun e w' => e = .returned (.bool (badBk bk)) ∧ Below w.heap.size w w' := by
 obtain ⟨p, ps⟩ := bk
 dsimp only at h hl ⊢
 rw [show badBk (p, ps) = (decide (p < 1) || decide (P31 ≤ p) || decide (5000 < ps.length) || ps.any fun n => decide (P31 ≤ n)) from rfl]
 have CX := Lib.hid (padsBad_any B (h.step (Mr.bAl (o := .cells #[.int .u64 (p : Int), vp] 85))) hl (by simp; omega) (by rw [← hc]; exact Mr.bAl.cell (p := ⟨B, 0, none⟩) hB))
 obtain ⟨a, c, rfl, -⟩ := h
 generalize (ps.any fun n => decide (P31 ≤ n)) = r at *
 by_cases c1 : p < 1
 ·rw [decide_eq_true c1]
  have d1 : (p : Int) < 1 := by omega
  clear c1 hl CX
  go_enter Tryz.func92, Tryz.ntmps92
  go_wp2_with fail
  exact bodyPost_ret (v := .bool true) (by simp only [results, Tryz.results92]; go_simp) rfl ⟨rfl, (by repeat' (first | exact Below.refl _ _ | assumption | apply bDrewN | apply bDrew | apply bAlloc | (refine bSet ?_ ?_ _) | (refine bStep ?_ (by assumption)) | omega | (simp <;> omega)))⟩
 ·rw [decide_eq_false c1]
  have d1 : ¬ (p : Int) < 1 := by omega
  by_cases c2 : P31 ≤ p
  ·rw [decide_eq_true c2]
   have d2 : (2147483647 : Int) ≤ p := by unfold P31 at c2; omega
   clear c1 c2 hl CX
   go_enter Tryz.func92, Tryz.ntmps92
   go_wp2_with fail
   exact bodyPost_ret (v := .bool true) (by simp only [results, Tryz.results92]; go_simp) rfl ⟨rfl, (by repeat' (first | exact Below.refl _ _ | assumption | apply bDrewN | apply bDrew | apply bAlloc | (refine bSet ?_ ?_ _) | (refine bStep ?_ (by assumption)) | omega | (simp <;> omega)))⟩
  ·rw [decide_eq_false c2]
   have d2 : ¬ (2147483647 : Int) ≤ p := by unfold P31 at c2; omega
   by_cases c3 : 5000 < ps.length
   ·rw [decide_eq_true c3]
    have d3 : (5000 : Int) < ps.length := by omega
    clear c1 c2 c3 hl CX
    go_enter Tryz.func92, Tryz.ntmps92
    go_wp2_with fail
    exact bodyPost_ret (v := .bool true) (by simp only [results, Tryz.results92]; go_simp) rfl ⟨rfl, (by repeat' (first | exact Below.refl _ _ | assumption | apply bDrewN | apply bDrew | apply bAlloc | (refine bSet ?_ ?_ _) | (refine bStep ?_ (by assumption)) | omega | (simp <;> omega)))⟩
   ·rw [decide_eq_false c3]
    have d3 : ¬ (5000 : Int) < ps.length := by omega
    clear c1 c2 c3 hl
    go_enter Tryz.func92, Tryz.ntmps92
    go_wp2_with (go_at_call 93; refine CX.out.mono ?_; rintro e w1 ⟨rfl, hb1⟩)
    exact bodyPost_ret (v := .bool r) (by simp only [results, Tryz.results92]; go_simp) rfl ⟨by simp, bStep Mr.bAl hb1⟩
end Go.Proofs.YtmpilgkfbibhlaaGreatDoor
namespace Go.Proofs.YtmpilgkfbibhlaaGreatDoor
open Go.RowKit
theorem any_take {bks : List Bk} {i : Nat} {bk : Bk} (h : (bks.take i).any badBk = false) (hk : bks[i]? = some bk) (hb : badBk bk = false) : (bks.take (i + 1)).any badBk = false := by
 rw [List.take_add_one, hk, List.any_append, h]
 simpa using hb
theorem any_at {bks : List Bk} {i : Nat} {bk : Bk} (hk : bks[i]? = some bk) (hb : badBk bk = true) : bks.any badBk = true := List.any_eq_true.2 ⟨bk, List.mem_of_getElem? hk, hb⟩
set_option maxHeartbeats 2000000 in
theorem idxB_any {a : Option Addr} {bks : List Bk} {w : World} (c B : Nat) (h : BksAt a bks w) (hl : bks.length ≤ 1000000 ∧ ∀ bk ∈ bks, bk.2.length ≤ 1000000) (hB : B < w.heap.size) (hc : w.cell? ⟨B, 0, none⟩ = some (.int .u64 2147483647)) :
  Calls Tryz.prog 133 #[.slice a bks.length c, .func (.func 92) #[] #[.pointer (some ⟨B, 0, none⟩)]] w fun e w' => ∃ i : Int, e = .returned (.int .i64 i) ∧ (decide (i ≥ 0) = bks.any badBk) ∧ Below w.heap.size w w' := by
 have H := Lib.hid h
 have HC := Lib.hid (And.intro hB hc)
 have HL := Lib.hid hl.2
 have hl1 := hl.1
 clear h hB hc hl
 go_enter Tryz.func133, Tryz.ntmps133
 go_wp2_with fail
 go_loopw [8] (fun ix wr => ∃ i : Nat, i ≤ bks.length ∧ ix = .int .i64 i ∧ Hid ((bks.take i).any badBk = false) ∧ Hid (Below w.heap.size w wr)) (fun ix _ => bks.length - (intOf ix).toNat)
 case atStart => exact ⟨0, by omega, rfl, rfl, Below.refl _ _⟩
 case round =>
  obtain ⟨i, hi, rfl, HT, HW⟩ := hrel
  by_cases hc : i < bks.length
  ·have c1 : (i : Int) < bks.length := by omega
   have c0 : (0 : Int) ≤ i := by omega
   obtain ⟨bk, hk⟩ : ∃ bk, bks[i]? = some bk := ⟨bks[i], List.getElem?_eq_getElem hc⟩
   obtain ⟨b, off, rfl, hb0, hcs⟩ := (H.out.step HW.out) (by rintro rfl; simp at hc)
   obtain ⟨g0, vp, g1, hp⟩ := hcs i bk hk
   have CB := Lib.hid (badBk_any bk vp B wr hp (HL.out bk (List.mem_of_getElem? hk)) (Nat.lt_of_lt_of_le HC.out.1 HW.out.size) (cell_step HC.out.2 HW.out))
   have HKK := Lib.hid hk
   clear hcs hp hk hc
   cases hbd : badBk bk
   ·rw [hbd] at CB
    have HBD := Lib.hid hbd
    clear hbd
    go_wp2_with (go_at_call 92; refine CB.out.mono ?_; rintro e w1 ⟨rfl, hb1⟩)
    exact ⟨⟨i + 1, by omega, by push_cast; rfl, any_take HT.out HKK.out HBD.out, bStep HW.out hb1⟩, by simp [intOf]; omega⟩
   ·rw [hbd] at CB
    have HBD := Lib.hid hbd
    clear hbd
    go_wp2_with (go_at_call 92; refine CB.out.mono ?_; rintro e w1 ⟨rfl, hb1⟩)
    exact bodyPost_ret (v := .int .i64 (i : Int)) (by simp only [results, Tryz.results133]; go_simp) rfl ⟨i, rfl, by rw [any_at HKK.out HBD.out]; exact decide_eq_true (by omega), bStep HW.out hb1⟩
  ·obtain rfl : i = bks.length := by omega
   clear hc
   go_wp2_with fail
   exact bodyPost_ret (v := .int .i64 (-1)) (by simp only [results, Tryz.results133]; go_simp) rfl ⟨-1, rfl, by have q := HT.out; rw [List.take_of_length_le (Nat.le_refl _)] at q; rw [q]; rfl, HW.out⟩
set_option maxHeartbeats 2000000 in
theorem hasBad_any {a : Option Addr} {bks : List Bk} {w : World} (c B : Nat) (h : BksAt a bks w) (hl : bks.length ≤ 1000000 ∧ ∀ bk ∈ bks, bk.2.length ≤ 1000000) (hB : B < w.heap.size) (hc : w.cell? ⟨B, 0, none⟩ = some (.int .u64 2147483647)) :
  Calls Tryz.prog 95 #[.slice a bks.length c, .func (.func 92) #[] #[.pointer (some ⟨B, 0, none⟩)]] w fun e w' => e = .returned (.bool (bks.any badBk)) ∧ Below w.heap.size w w' := by
 have CI := Lib.hid (idxB_any c B h hl hB hc)
 clear h hl hB hc
 generalize bks.any badBk = r at *
 generalize bks.length = n at *
 go_enter Tryz.func95, Tryz.ntmps95
 go_wp2_with (go_at_call 133; refine CI.out.mono ?_; rintro e w1 ⟨i, rfl, hi, hb1⟩; have HI := Lib.hid hi; clear hi)
 exact bodyPost_ret (v := .bool (decide (i ≥ 0))) (by simp only [results, Tryz.results95]; go_simp) rfl ⟨by rw [HI.out], hb1⟩
theorem large_any (w : World) : Calls Tryz.prog 40 #[] w fun e w' => ∃ B off, e = .returned (.pointer (some ⟨B, off, none⟩)) ∧ w.heap.size ≤ B ∧ B < w'.heap.size ∧ w'.cell? ⟨B, off, none⟩ = some (.int .u64 2147483647) ∧ w'.cell? ⟨B, off + 1, none⟩ = some (.int .i64 3) ∧ Below w.heap.size w w' := by
 have CF := Lib.hid (fieldOf_some 2 (by decide) w)
 go_enter Tryz.func40, Tryz.ntmps40
 go_wp2_with (go_at_call 86; refine CF.out.mono ?_; rintro e w1 ⟨B, off, rfl, h1, h2, h3, h4, hb⟩)
 exact bodyPost_ret (v := .pointer (some ⟨B, off, none⟩)) (by simp only [results, Tryz.results40]; go_simp) rfl ⟨B, off, rfl, h1, h2, h3, h4, hb⟩
end Go.Proofs.YtmpilgkfbibhlaaGreatDoor
