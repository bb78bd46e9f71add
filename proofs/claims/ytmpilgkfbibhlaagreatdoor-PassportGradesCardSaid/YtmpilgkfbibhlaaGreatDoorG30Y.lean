/-
 follow, whole, Modules, Grade of package passport: at a legal history.
-/
import Derived.Test.YtmpilgkfbibhlaaGreatDoorG29Y
set_option linter.unusedSimpArgs false
set_option linter.unusedVariables false
namespace Go.Proofs.YtmpilgkfbibhlaaGreatDoor
open Sx Go.RowKit Mr
theorem evSize6 : (Tryz.prog.info? 29).map (·.size) = some 6 := by kernel_rfl
structure FlS (w0 : World) (X : Nat) (nm : ByteArray) (h : List Evt) (W : World) : Prop where
 bel : Below w0.heap.size w0 W
 hX : w0.heap.size ≤ X
 life : ∃ vm vo, LifeAt 93 X 0 nm (lifeOf nm h) vm vo W ∧ (h = [] → vm = .slice none 0 0)
theorem FlS.step {w0 : World} {X : Nat} {nm : ByteArray} {h : List Evt} {W w2 : World} (hh : FlS w0 X nm h W) (hb : Below W.heap.size W w2) : FlS w0 X nm h w2 := by
 obtain ⟨vm, vo, h1, h2⟩ := hh.life
 exact ⟨bStep hh.bel hb, hh.hX, vm, vo, h1.step hb, h2⟩
structure LegA (nm : ByteArray) (h : List Evt) : Prop where
 nb : nameB nm = true
 len : h.length ≤ 500
 leg : LegH nm h
 ok : ∀ e ∈ h, okX e = true
theorem LegA.at_ {nm : ByteArray} {h : List Evt} (hl : LegA nm h) {i : Nat} {e : Evt} (he : h[i]? = some e) : okX e = true ∧ canP nm (lifeOf nm (h.take i)) e = true ∧ LifeB (lifeOf nm (h.take i)) ∧ (lifeOf nm (h.take i)).ms.length ≤ 100000 ∧ (lifeOf nm (h.take i)).os.length ≤ 100000 ∧ lifeOf nm (h.take (i + 1)) = (lifeOf nm (h.take i)).add nm e := by
 have hi := (List.getElem?_eq_some_iff.1 he).1
 have hsp : h = h.take i ++ e :: h.drop (i + 1) := by
  conv => lhs; rw [← List.take_append_drop i h]
  rw [List.drop_eq_getElem_cons hi, (List.getElem?_eq_some_iff.1 he).2]
 have hlt : LegH nm (h.take i) := fun g e2 r hg => hl.leg g e2 (r ++ e :: h.drop (i + 1)) (hsp.trans (by rw [hg]; simp))
 have hn := (lifeOf_N nm (h.take i) fun e2 he2 => hl.ok e2 (List.mem_of_mem_take he2)).lifeB (by rw [life_n, List.length_take]; have := hl.len; omega)
 refine ⟨hl.ok e (List.mem_of_getElem? he), ?_, hn.1, hn.2.1, hn.2.2, ?_⟩
 ·rw [can_same hlt]
  exact hl.leg _ _ _ hsp
 ·rw [List.take_add_one, he]
  exact lifeOf_snoc _ _ _
set_option maxHeartbeats 8000000 in
set_option maxRecDepth 20000 in
theorem follow_any {ae : Option Addr} {h : List Evt} {w : World} (ce : Nat) (nm : ByteArray) (hE : EvAt ae h w) (hG : Glob0 w) (hl : LegA nm h) : Calls Tryz.prog 118 #[.string nm, .slice ae h.length ce] w fun en w' => ∃ X, en = .returned (.tuple #[.pointer (some ⟨X, 0, none⟩), .int .i64 (h.length : Int), .int .i64 0]) ∧ FlS w X nm h w' := by
 have hnm := (nameB_size hl.nb).2
 have CN := Lib.hid (isName_any nm w (by omega))
 rw [hl.nb] at CN
 have HE := Lib.hid hE
 have HG := Lib.hid hG
 have HL := Lib.hid hl
 have hlen : ¬ (500 : Int) < h.length := by have := hl.len; omega
 have hl5 := hl.len
 have HNM := Lib.hid (show nm.size ≤ 1000 by omega)
 clear hE hG hl hnm
 go_enter Tryz.func118, Tryz.ntmps118
 go_upto_region 6 with (go_at_call 39; refine CN.out.mono ?_; rintro e w1 ⟨rfl, hb1⟩)
 clear hlen
 have HF0 : Hid (FlS w w1.heap.size nm [] (w1.alloc (.cells #[.string nm, .int .i64 0, .int .i64 0, .int .i64 0, .int .i64 0, .int .i64 0, .int .i64 0, .string ⟨#[]⟩, .string ⟨#[]⟩, .slice none 0 0, .slice none 0 0, .int .i64 0, .int .i64 0, .bool false, .int .i64 0, .int .i64 0, .int .i64 0, .bool false] 93))) := ⟨bStep hb1 bAl, hb1.size, _, _, life_box w1 nm, fun _ => rfl⟩
 clear hb1 CN
 generalize w1.alloc _ = w2 at *
 generalize w1.heap.size = X at *
 go_wp2_with fail
 go_loopw [21] (fun ix wr => ∃ i : Nat, i ≤ h.length ∧ ix = .int .i64 i ∧ Hid (FlS w X nm (h.take i) wr)) (fun ix _ => h.length - (intOf ix).toNat)
 case atStart => exact ⟨0, by omega, rfl, HF0⟩
 case round =>
  obtain ⟨i, hi, rfl, HF⟩ := hrel
  by_cases hc : i < h.length
  ·have c1 : (i : Int) < h.length := by omega
   have c0 : (0 : Int) ≤ i := by omega
   obtain ⟨y, hk⟩ : ∃ y, h[i]? = some y := ⟨h[i], List.getElem?_eq_getElem hc⟩
   obtain ⟨q1, q2, q3, q4, q5, q6⟩ := HL.out.at_ hk
   obtain ⟨b, off, rfl, hb0, hcs⟩ := HE.out (by rintro rfl; simp at hc)
   have hsz := okX_size q1
   have hev := (okE_ev (show okE y.1 y.2.1 y.2.2.1 y.2.2.2.1 y.2.2.2.2.1 y.2.2.2.2.2 = true from q1)).1.k
   have CA0 := fun (W : World) (vm vo : Value) (hL : LifeAt 93 X 0 nm (lifeOf nm (h.take i)) vm vo W) => can_any hL y hev (by omega) (by omega)
   rw [q2] at CA0
   have CD0 := fun (W : World) (vm vo : Value) (hL : LifeAt 93 X 0 nm (lifeOf nm (h.take i)) vm vo W) (hn : h.take i = [] → vm = .slice none 0 0) => add_any (by decide) hL q3 ⟨q4, q5⟩ HNM.out (fun e => by
    have e2 : h.take i = [] := by rw [life_n] at e; exact List.length_eq_zero_iff.1 e
    rw [e2] at hn ⊢
    exact ⟨hn rfl, rfl⟩) y q1 q2
   have HNX := Lib.hid q6
   obtain ⟨k, t, ea, eb, n1, ot⟩ := y
   have CA : Hid (∀ (W : World) (vm vo : Value), LifeAt 93 X 0 nm (lifeOf nm (h.take i)) vm vo W → Calls Tryz.prog 43 #[.pointer (some ⟨X, 0, none⟩), .agg #[.int .i64 k, .int .i64 t, .int .i64 ea, .int .i64 eb, .string n1, .string ot]] W fun en w' => en = .returned (.bool true) ∧ Below W.heap.size W w') := CA0
   have CD : Hid (∀ (W : World) (vm vo : Value), LifeAt 93 X 0 nm (lifeOf nm (h.take i)) vm vo W → (h.take i = [] → vm = .slice none 0 0) → Calls Tryz.prog 46 #[.pointer (some ⟨X, 0, none⟩), .agg #[.int .i64 k, .int .i64 t, .int .i64 ea, .int .i64 eb, .string n1, .string ot]] W fun en w' => en = .returned (.tuple #[]) ∧ ∃ vm' vo', LifeAt 93 X 0 nm ((lifeOf nm (h.take i)).add nm (k, t, ea, eb, n1, ot)) vm' vo' w' ∧ OnlyB 93 X 0 18 W w') := CD0
   have CK := Lib.hid (fun W (hW : Below w.heap.size w W) => Check_any k t ea eb n1 ot W (gstep HG.out hW) (by have := hsz.1; dsimp only at this; omega) (by have := hsz.2; dsimp only at this; omega))
   rw [show okE k t ea eb n1 ot = true from q1] at CK
   simp only [cond_true] at CK
   have HYC : Hid (∀ j u, [.int .i64 k, .int .i64 t, .int .i64 ea, .int .i64 eb, .string n1, .string ot][j]? = some u → wr.cell? ⟨b, off + i * 6 + j, none⟩ = some u) := fun j u hj => cell_step (hcs i (k, t, ea, eb, n1, ot) hk j u hj) HF.out.bel
   have hlb : b < wr.heap.size := Nat.lt_of_lt_of_le hb0 HF.out.bel.size
   clear hcs hk q1 q2 q3 q4 q5 q6 hev hsz CA0 CD0 hb0 hc
   go_upto_region 9 with (refine wpList_load_mid rfl 29 (.tmp 24) rfl b (off + i * 6) rfl [.int .i64 k, .int .i64 t, .int .i64 ea, .int .i64 eb, .string n1, .string ot] _ HYC.out Tryz.underlying29 rfl evSize6 ?_)
   have HP := Lib.hid (blk_new wr (.cells #[.int .i64 k, .int .i64 t, .int .i64 ea, .int .i64 eb, .string n1, .string ot] 29))
   have HF9 := Lib.hid (HF.out.step (bAl (W := wr) (o := (.cells #[.int .i64 k, .int .i64 t, .int .i64 ea, .int .i64 eb, .string n1, .string ot] 29))))
   clear HF HYC hlb
   have HF := HF9
   clear HF9
   generalize wr.alloc (.cells #[.int .i64 k, .int .i64 t, .int .i64 ea, .int .i64 eb, .string n1, .string ot] 29) = w3 at *
   generalize wr.heap.size = P at *
   have u0 := blk_cell (o := 0) HP.out rfl; have u1 := blk_cell (o := 1) HP.out rfl; have u2 := blk_cell (o := 2) HP.out rfl; have u3 := blk_cell (o := 3) HP.out rfl; have u4 := blk_cell (o := 4) HP.out rfl; have u5 := blk_cell (o := 5) HP.out rfl; have ul := blk_lt HP.out
   go_wp2_with (first | (go_at_call 42; refine (CK.out _ HF.out.bel).mono ?_; rintro e w9 ⟨rfl, hbn⟩; have HP9 := Lib.hid (blk_step HP.out hbn); have HF9 := Lib.hid (HF.out.step hbn); clear HP HF hbn u0 u1 u2 u3 u4 u5 ul; have HP := HP9; have HF := HF9; clear HP9 HF9; have u0 := blk_cell (o := 0) HP.out rfl; have u1 := blk_cell (o := 1) HP.out rfl; have u2 := blk_cell (o := 2) HP.out rfl; have u3 := blk_cell (o := 3) HP.out rfl; have u4 := blk_cell (o := 4) HP.out rfl; have u5 := blk_cell (o := 5) HP.out rfl; have ul := blk_lt HP.out; obtain ⟨vm9, vo9, hl9, hn9⟩ := HF.out.life; have CC := Lib.hid (CA.out _ _ _ hl9); clear hl9 hn9) | (go_at_call 43; refine CC.out.mono ?_; rintro e w9 ⟨rfl, hbn⟩; have HP9 := Lib.hid (blk_step HP.out hbn); have HF9 := Lib.hid (HF.out.step hbn); clear HP HF hbn u0 u1 u2 u3 u4 u5 ul; have HP := HP9; have HF := HF9; clear HP9 HF9; have u0 := blk_cell (o := 0) HP.out rfl; have u1 := blk_cell (o := 1) HP.out rfl; have u2 := blk_cell (o := 2) HP.out rfl; have u3 := blk_cell (o := 3) HP.out rfl; have u4 := blk_cell (o := 4) HP.out rfl; have u5 := blk_cell (o := 5) HP.out rfl; have ul := blk_lt HP.out; obtain ⟨vm8, vo8, hl8, hn8⟩ := HF.out.life; have CB := Lib.hid (CD.out _ _ _ hl8 hn8); clear hl8 hn8 CC) | (go_at_call 46; refine CB.out.mono ?_; rintro e w10 ⟨rfl, vm6, vo6, hl6, ho6⟩; have HL6 := Lib.hid hl6; have HO6 := Lib.hid ho6; clear hl6 ho6))
   have HFN : Hid (FlS w X nm (h.take (i + 1)) w10) := ⟨OnlyB.below HF.out.bel HO6.out HF.out.hX HF.out.bel.size, HF.out.hX, vm6, vo6, by rw [HNX.out]; exact HL6.out, fun e => by
    have h9 := congrArg List.length e
    rw [List.length_take, List.length_nil] at h9
    omega⟩
   exact ⟨⟨i + 1, by omega, by push_cast; rfl, HFN⟩, by simp [intOf]; omega⟩
  ·obtain rfl : i = h.length := by omega
   rw [List.take_length] at HF
   clear hc
   go_wp2_with fail
   exact bodyPost_ret (v := .tuple #[.pointer (some ⟨X, 0, none⟩), .int .i64 (h.length : Int), .int .i64 0]) (by simp only [results, Tryz.results118]; go_simp) rfl ⟨X, rfl, HF.out⟩
set_option maxHeartbeats 4000000 in
set_option maxRecDepth 20000 in
theorem whole_any {ae : Option Addr} {h : List Evt} {w : World} (ce : Nat) (nm : ByteArray) (hE : EvAt ae h w) (hG : Glob0 w) (hl : LegA nm h) : Calls Tryz.prog 66 #[.string nm, .slice ae h.length ce] w fun en w' => ∃ X, en = .returned (.tuple #[.pointer (some ⟨X, 0, none⟩), .int .i64 0]) ∧ FlS w X nm h w' := by
 have CF := Lib.hid (follow_any ce nm hE hG hl)
 clear hE hG hl
 generalize hn : h.length = n at *
 clear hn
 go_enter Tryz.func66, Tryz.ntmps66
 go_wp2_with (go_at_call 118; refine CF.out.mono ?_; rintro e w1 ⟨X, rfl, hf⟩; have HF := Lib.hid hf; clear hf)
 exact bodyPost_ret (v := .tuple #[.pointer (some ⟨X, 0, none⟩), .int .i64 0]) (by simp only [results, Tryz.results66]; go_simp) rfl ⟨X, rfl, HF.out⟩
set_option maxHeartbeats 4000000 in
set_option maxRecDepth 20000 in
theorem Modules_any {ae : Option Addr} {h : List Evt} {w : World} (ce : Nat) (nm : ByteArray) (hE : EvAt ae h w) (hG : Glob0 w) (hl : LegA nm h) : Calls Tryz.prog 21 #[.string nm, .slice ae h.length ce] w fun en w' => ∃ v', en = .returned (.tuple #[v', .int .i64 0]) ∧ SRow v' (lifeOf nm h).ms w' ∧ Below w.heap.size w w' := by
 have CF := Lib.hid (whole_any ce nm hE hG hl)
 clear hE hG hl
 go_enter Tryz.func21, Tryz.ntmps21
 go_wp2_with (go_at_call 66; refine CF.out.mono ?_; rintro e w1 ⟨X, rfl, hf⟩; have HF := Lib.hid hf; obtain ⟨vm, vo, hL, hn⟩ := hf.life; have HL := Lib.hid hL; obtain ⟨am, cm, evm, -⟩ := hL.ms; subst evm; have n9 := hL.open1.2.2.2.1; have nl := hL.lt; clear hf hL hn)
 exact bodyPost_ret (v := .tuple #[.slice am (lifeOf nm h).ms.length cm, .int .i64 0]) (by simp only [results, Tryz.results21]; go_simp) rfl ⟨_, rfl, HL.out.ms, HF.out.bel⟩
set_option maxHeartbeats 4000000 in
set_option maxRecDepth 20000 in
theorem PGrade_any {ae : Option Addr} {h : List Evt} {w : World} (ce : Nat) (nm : ByteArray) (hE : EvAt ae h w) (hG : Glob0 w) (hl : LegA nm h) (hne : h ≠ []) : Calls Tryz.prog 35 #[.string nm, .slice ae h.length ce] w fun en w' => en = .returned (.tuple #[.int .i64 (gradeP (lifeOf nm h)), .int .i64 0]) ∧ Below w.heap.size w w' := by
 have CF := Lib.hid (whole_any ce nm hE hG hl)
 have HSC := Lib.hid (scB_of hl.leg hl.ok hne (by have := hl.len; omega))
 have h0 : ¬ (h.length : Int) = 0 := fun c => hne (List.length_eq_zero_iff.1 (by omega))
 have h1 : ((h.length : Int) == 0) = false := by simpa using h0
 clear hE hG hl hne
 go_enter Tryz.func35, Tryz.ntmps35
 go_wp2_with (first | (go_at_call 66; refine CF.out.mono ?_; rintro e w1 ⟨X, rfl, hf⟩; have HF := Lib.hid hf; obtain ⟨vm, vo, hL, hn⟩ := hf.life; have CG := Lib.hid (grade_any hL HSC.out); clear hf hL hn) | (go_at_call 84; refine CG.out.mono ?_; rintro e w2 ⟨rfl, hb2⟩))
 exact bodyPost_ret (v := .tuple #[.int .i64 (gradeP (lifeOf nm h)), .int .i64 0]) (by simp only [results, Tryz.results35]; go_simp) rfl ⟨rfl, bStep HF.out.bel hb2⟩
end Go.Proofs.YtmpilgkfbibhlaaGreatDoor
