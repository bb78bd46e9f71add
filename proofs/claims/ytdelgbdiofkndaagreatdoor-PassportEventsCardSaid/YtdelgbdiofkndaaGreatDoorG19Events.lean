/-
  Events read from texts: the plain law.
-/
import Derived.Test.YtdelgbdiofkndaaGreatDoorG13Events
import Derived.Test.YtdelgbdiofkndaaGreatDoorG18Events
import Derived.Test.YtdelgbdiofkndaaGreatDoorG17Events
import Derived.Test.YtdelgbdiofkndaaGreatDoorG15Events
import Derived.Deep.MidRow
set_option linter.unusedSimpArgs false
set_option linter.unusedVariables false
namespace Go.Proofs.YtdelgbdiofkndaaGreatDoor
open Sx
/-- An event: kind, time, two numbers, two texts. -/
abbrev E6 := Int × Int × Int × Int × ByteArray × ByteArray
def okT (e : E6) : Bool := okE e.1 e.2.1 e.2.2.1 e.2.2.2.1 e.2.2.2.2.1 e.2.2.2.2.2
def evT6 (e : E6) : Ev := evL e.1 e.2.1 e.2.2.1 e.2.2.2.1 e.2.2.2.2.1 e.2.2.2.2.2
def txT (e : E6) : List UInt8 := textE (evT6 e)
theorem okT_ev {e : E6} (h : okT e = true) : EvOk (evT6 e) := (okE_ev h).1
theorem evT6_inj {e f : E6} (h : evT6 e = evT6 f) : e = f := by
  obtain ⟨k, t, a, b, nm, ot⟩ := e
  obtain ⟨k', t', a', b', nm', ot'⟩ := f
  unfold evT6 evL at h
  simp only [Ev.mk.injEq] at h
  obtain ⟨rfl, rfl, rfl, rfl, h5, h6⟩ := h
  rw [ba_inj h5, ba_inj h6]
theorem txT_inj {e f : E6} (he : okT e = true) (hf : okT f = true) (h : txT e = txT f) : e = f := evT6_inj (text_inj (okT_ev he) (okT_ev hf) h)
open Classical in
noncomputable def parE (l : List UInt8) : Option E6 := if h : ∃ e, okT e = true ∧ l = txT e then some h.choose else none
theorem parE_some {e : E6} (h : okT e = true) : parE (txT e) = some e := by
  have hx : ∃ f, okT f = true ∧ txT e = txT f := ⟨e, h, rfl⟩
  unfold parE
  rw [dif_pos hx]
  exact congrArg some (txT_inj h hx.choose_spec.1 hx.choose_spec.2).symm
theorem parE_none {l : List UInt8} (h : ∀ e, okT e = true → l ≠ txT e) : parE l = none := by
  unfold parE
  rw [dif_neg]
  rintro ⟨e, h1, h2⟩
  exact h e h1 h2
/-- What is made of words and numbers. -/
def mkE (w0 w2 w3 w4 : List UInt8) (v1 v2 v3 : Int) : E6 :=
  if w0 = word 1 then (1, v1, v2, v3, ⟨w4.toArray⟩, ⟨#[]⟩) else if w0 = word 2 then (2, v1, v2, v3, ⟨#[]⟩, ⟨#[]⟩) else if w0 = word 3 then (3, v1, v2, 0, ⟨#[]⟩, ⟨#[]⟩) else
  if w0 = word 4 then (4, v1, v2, 0, ⟨#[]⟩, ⟨#[]⟩) else if w0 = word 5 then (5, v1, 0, 0, ⟨w2.toArray⟩, ⟨w3.toArray⟩) else if w0 = word 6 then (6, v1, 0, 0, ⟨w2.toArray⟩, ⟨w3.toArray⟩) else
  if w0 = word 7 then (7, v1, 0, 0, ⟨w2.toArray⟩, ⟨#[]⟩) else if w0 = word 8 then (8, v1, 0, 0, ⟨w2.toArray⟩, ⟨#[]⟩) else if w0 = word 9 then (9, v1, 0, 0, ⟨#[]⟩, ⟨#[]⟩) else (0, v1, 0, 0, ⟨#[]⟩, ⟨#[]⟩)
theorem spl_txT {e : E6} (h : okT e = true) : spl (txT e) = word e.1 :: parts (evT6 e) := by
  have hs := parts_sp (okT_ev h)
  exact spl_of hs
/-- A reading of words as numbers that knows the decimal numbers of events. -/
def Reads (w : List UInt8) (v : Int) : Prop := ∀ n : Int, 0 ≤ n → n ≤ 1099511627776 → w = Lib.itoa n → v = n
theorem mk_txT {e : E6} (h : okT e = true) {v1 v2 v3 : Int} (h1 : Reads ((spl (txT e)).getD 1 []) v1) (h2 : Reads ((spl (txT e)).getD 2 []) v2) (h3 : Reads ((spl (txT e)).getD 3 []) v3) :
    mkE ((spl (txT e)).getD 0 []) ((spl (txT e)).getD 2 []) ((spl (txT e)).getD 3 []) ((spl (txT e)).getD 4 []) v1 v2 v3 = e := by
  have he := okT_ev h
  rw [spl_txT h] at h1 h2 h3 ⊢
  obtain ⟨k, t, a, b, nm, ot⟩ := e
  obtain ⟨q1, q2, q3, q4, qa, qb, -, -, n0, n1, o0, o1⟩ := he
  unfold evT6 evL at q1 q2 q3 q4 qa qb n0 n1 o0 o1 h1 h2 h3 ⊢
  dsimp only at q1 q2 q3 q4 qa qb n0 n1 o0 o1 h1 h2 h3 ⊢
  have hc : k = 1 ∨ k = 2 ∨ k = 3 ∨ k = 4 ∨ k = 5 ∨ k = 6 ∨ k = 7 ∨ k = 8 ∨ k = 9 := by omega
  have e1 : v1 = t := h1 t q2.1 q2.2 rfl
  subst e1
  rcases hc with rfl | rfl | rfl | rfl | rfl | rfl | rfl | rfl | rfl
  · have hn := n1 (by decide)
    obtain rfl : ot = ⟨#[]⟩ := ba_inj (o0 (by decide))
    have e2 : v2 = a := h2 a q3.1 q3.2 (by simp [parts])
    subst e2
    have e3 : v3 = b := h3 b q4.1 q4.2 (by simp [parts])
    subst e3
    simp [mkE, parts, word, hn]
  · obtain rfl : nm = ⟨#[]⟩ := ba_inj (n0 (by decide))
    obtain rfl : ot = ⟨#[]⟩ := ba_inj (o0 (by decide))
    have e2 : v2 = a := h2 a q3.1 q3.2 (by simp [parts])
    subst e2
    have e3 : v3 = b := h3 b q4.1 q4.2 (by simp [parts])
    subst e3
    simp [mkE, parts, word]
  · obtain rfl : nm = ⟨#[]⟩ := ba_inj (n0 (by decide))
    obtain rfl : ot = ⟨#[]⟩ := ba_inj (o0 (by decide))
    obtain rfl : b = 0 := qb (by decide)
    have e2 : v2 = a := h2 a q3.1 q3.2 (by simp [parts])
    subst e2
    simp [mkE, parts, word]
  · obtain rfl : nm = ⟨#[]⟩ := ba_inj (n0 (by decide))
    obtain rfl : ot = ⟨#[]⟩ := ba_inj (o0 (by decide))
    obtain rfl : b = 0 := qb (by decide)
    have e2 : v2 = a := h2 a q3.1 q3.2 (by simp [parts])
    subst e2
    simp [mkE, parts, word]
  · have hn := n1 (by decide)
    have ho := o1 (by decide)
    obtain rfl : a = 0 := qa (by decide)
    obtain rfl : b = 0 := qb (by decide)
    simp [mkE, parts, word, hn, ho]
  · have hn := n1 (by decide)
    have ho := o1 (by decide)
    obtain rfl : a = 0 := qa (by decide)
    obtain rfl : b = 0 := qb (by decide)
    simp [mkE, parts, word, hn, ho]
  · have hn := n1 (by decide)
    obtain rfl : ot = ⟨#[]⟩ := ba_inj (o0 (by decide))
    obtain rfl : a = 0 := qa (by decide)
    obtain rfl : b = 0 := qb (by decide)
    simp [mkE, parts, word, hn]
  · have hn := n1 (by decide)
    obtain rfl : ot = ⟨#[]⟩ := ba_inj (o0 (by decide))
    obtain rfl : a = 0 := qa (by decide)
    obtain rfl : b = 0 := qb (by decide)
    simp [mkE, parts, word, hn]
  · obtain rfl : nm = ⟨#[]⟩ := ba_inj (n0 (by decide))
    obtain rfl : ot = ⟨#[]⟩ := ba_inj (o0 (by decide))
    obtain rfl : a = 0 := qa (by decide)
    obtain rfl : b = 0 := qb (by decide)
    simp [mkE, parts, word]
/-- What both Parse find, if it does not make the text again. -/
theorem parE_bad {l : List UInt8} {v1 v2 v3 : Int} (h1 : Reads ((spl l).getD 1 []) v1) (h2 : Reads ((spl l).getD 2 []) v2) (h3 : Reads ((spl l).getD 3 []) v3) {e : E6} (he : mkE ((spl l).getD 0 []) ((spl l).getD 2 []) ((spl l).getD 3 []) ((spl l).getD 4 []) v1 v2 v3 = e) (hn : ¬ (okT e = true ∧ txT e = l)) : parE l = none := parE_none fun f hf q => by
  subst q
  have := mk_txT hf h1 h2 h3
  rw [he] at this
  subst this
  exact hn ⟨hf, rfl⟩
theorem parE_good {l : List UInt8} {e : E6} (h : okT e = true) (ht : txT e = l) : parE l = some e := by rw [← ht]; exact parE_some h
theorem reads_parse {z : List UInt8} {v : Int} (h : ∀ u, Lib.parseIntB 64 z = .ok u → v = u) : Reads z v := fun n h0 h1 e => h n (by rw [e]; exact parse_itoa (by omega) (by omega))
theorem reads_num {z : List UInt8} {v : Int} (h : isN z = true → v = sv z) : Reads z v := fun n h0 h1 e => by
  subst e
  rw [h (isN_itoa (okP_len (by omega) h1)), sv_itoa]
end Go.Proofs.YtdelgbdiofkndaaGreatDoor

/-
  The reference's cut.
-/
set_option linter.unusedSimpArgs false
set_option linter.unusedVariables false
namespace Go.Proofs.YtdelgbdiofkndaaGreatDoor
open Sx Go.RowKit Mr
/-- The pieces between spaces, one by one. -/
def brk : List UInt8 → List (List UInt8)
  | [] => [[]]
  | c :: l => if c = 32 then [] :: brk l else match brk l with
    | x :: xs => (c :: x) :: xs
    | [] => [[c]]
theorem brk_ne : ∀ l, brk l ≠ []
  | [] => by simp [brk]
  | c :: l => by
    unfold brk
    split
    · simp
    · split <;> simp
theorem brk_free : ∀ {x : List UInt8}, (∀ c ∈ x, c ≠ 32) → brk x = [x]
  | [], _ => rfl
  | c :: x, h => by
    rw [brk, if_neg (h c (List.mem_cons_self ..)), brk_free fun d hd => h d (List.mem_cons_of_mem _ hd)]
theorem brk_at : ∀ {x r : List UInt8}, (∀ c ∈ x, c ≠ 32) → brk (x ++ 32 :: r) = x :: brk r
  | [], r, _ => by rw [List.nil_append, brk, if_pos rfl]
  | c :: x, r, h => by rw [List.cons_append, brk, if_neg (h c (List.mem_cons_self ..)), brk_at fun d hd => h d (List.mem_cons_of_mem _ hd)]
theorem brk_ok : ∀ l, Lib.join (brk l) [32] = l ∧ ∀ z ∈ brk l, Sp z
  | [] => ⟨Lib.join_one _ _, fun z hz => by
    obtain rfl : z = [] := by simpa [brk] using hz
    exact fun c hc => by cases hc⟩
  | c :: l => by
    obtain ⟨h1, h2⟩ := brk_ok l
    rw [brk]
    by_cases h : c = 32
    · rw [if_pos h, Lib.join_cons]
      refine ⟨?_, fun z hz => ?_⟩
      · have hne := brk_ne l
        cases hb : brk l with
        | nil => exact absurd hb hne
        | cons x xs =>
          rw [tail_cons, ← Lib.join_cons, ← hb, h1, h]
          rfl
      · rcases List.mem_cons.1 hz with rfl | hz
        · exact fun c hc => by cases hc
        · exact h2 z hz
    · rw [if_neg h]
      have hne := brk_ne l
      cases hb : brk l with
      | nil => exact absurd hb hne
      | cons x xs =>
        rw [hb] at h1 h2
        dsimp only
        refine ⟨?_, fun z hz => ?_⟩
        · rw [Lib.join_cons, List.cons_append, ← Lib.join_cons, h1]
        · rcases List.mem_cons.1 hz with rfl | hz
          · intro d hd
            rcases List.mem_cons.1 hd with rfl | hd
            · intro e; exact h (UInt8.toNat_inj.1 e)
            · exact h2 x (List.mem_cons_self ..) d hd
          · exact h2 z (List.mem_cons_of_mem _ hz)
theorem brk_spl (l : List UInt8) : spl l = brk l := by
  obtain ⟨h1, h2⟩ := brk_ok l
  have hne := brk_ne l
  cases hb : brk l with
  | nil => exact absurd hb hne
  | cons x xs =>
    rw [hb] at h1 h2
    have := spl_of h2
    rwa [h1] at this
/-- Where cut stands. -/
def CutS (l : List UInt8) (i fr : Nat) (P : List (List UInt8)) : Prop :=
  (i ≤ l.length ∧ fr ≤ i ∧ (∀ j, fr ≤ j → j < i → l.getD j 0 ≠ 32) ∧ spl l = P ++ brk (l.drop fr)) ∨ (i = l.length + 1 ∧ spl l = P)
theorem CutS.start (l : List UInt8) : CutS l 0 0 [] := Or.inl ⟨Nat.zero_le _, Nat.le_refl _, fun j h1 h2 => by omega, by rw [brk_spl]; rfl⟩
theorem CutS.go {l : List UInt8} {i fr : Nat} {P : List (List UInt8)} (h : CutS l i fr P) (hi : i < l.length) (hc : l.getD i 0 ≠ 32) : CutS l (i + 1) fr P := by
  rcases h with ⟨h1, h2, h3, h4⟩ | ⟨h1, -⟩
  · exact Or.inl ⟨by omega, by omega, fun j q1 q2 => by
      by_cases e : j = i
      · rw [e]; exact hc
      · exact h3 j q1 (by omega), h4⟩
  · omega
theorem seg_free {l : List UInt8} {i fr : Nat} (h1 : i ≤ l.length) (h3 : ∀ j, fr ≤ j → j < i → l.getD j 0 ≠ 32) : ∀ c ∈ seg l fr i, c ≠ 32 := by
  intro c hc
  unfold seg at hc
  obtain ⟨k, hk, rfl⟩ := List.mem_iff_getElem.1 hc
  have hk2 : k < i - fr := by simp at hk; omega
  have := h3 (fr + k) (by omega) (by omega)
  rw [List.getD_eq_getElem?_getD, List.getElem?_eq_getElem (by omega)] at this
  simpa using this
theorem seg_drop {l : List UInt8} {i fr : Nat} (h1 : i ≤ l.length) (h2 : fr ≤ i) : l.drop fr = seg l fr i ++ l.drop i := by
  unfold seg
  conv => lhs; rw [← List.take_append_drop (i - fr) (l.drop fr)]
  rw [List.drop_drop, show fr + (i - fr) = i by omega]
theorem CutS.piece {l : List UInt8} {i fr : Nat} {P : List (List UInt8)} (h : CutS l i fr P) (hi : i < l.length) (hc : l.getD i 0 = 32) : CutS l (i + 1) (i + 1) (P ++ [seg l fr i]) := by
  rcases h with ⟨h1, h2, h3, h4⟩ | ⟨h1, -⟩
  · refine Or.inl ⟨by omega, Nat.le_refl _, fun j q1 q2 => by omega, ?_⟩
    have e : l.drop i = 32 :: l.drop (i + 1) := by
      rw [List.drop_eq_getElem_cons hi]
      rw [List.getD_eq_getElem?_getD, List.getElem?_eq_getElem hi] at hc
      have : l[i] = 32 := hc
      rw [this]
    rw [h4, seg_drop h1 h2, e, brk_at (seg_free h1 h3)]
    simp
  · omega
theorem CutS.last {l : List UInt8} {i fr : Nat} {P : List (List UInt8)} (h : CutS l i fr P) (hi : i = l.length) : CutS l (i + 1) (i + 1) (P ++ [seg l fr i]) := by
  rcases h with ⟨h1, h2, h3, h4⟩ | ⟨h1, -⟩
  · refine Or.inr ⟨by omega, ?_⟩
    rw [h4, seg_drop h1 h2, hi, List.drop_length, List.append_nil, brk_free (by rw [← hi]; exact seg_free h1 h3)]
  · omega
theorem CutS.stop {l : List UInt8} {i fr : Nat} {P : List (List UInt8)} (h : CutS l i fr P) (hP : P.length ≤ 7) (he : ¬ (i ≤ l.length ∧ P.length < 7)) : (spl l).take 7 = P := by
  rcases h with ⟨h1, h2, h3, h4⟩ | ⟨h1, h4⟩
  · rw [h4, List.take_append_of_le_length (by omega), List.take_of_length_le hP]
  · rw [h4, List.take_of_length_le hP]
theorem ext_seg {s : ByteArray} {a i : Nat} : (s.extract a i).data.toList = seg s.data.toList a i := by rw [Lib.extract_eq]; unfold seg; simp
theorem neU {c d : UInt8} (h : ¬ c = d) : ((c.toNat : Int) == (d.toNat : Int)) = false := by
  simp only [beq_eq_false_iff_ne, ne_eq]
  intro q
  exact h (UInt8.toNat_inj.1 (by omega))
def StO (W : World) (B : Nat) (v : Value) (ts : List ByteArray) : Prop := W.ownsRow B 9 1 v ts.length (ts.map Value.string)
theorem infoS : (Tryz.prog.info? 9).map (fun i => (i.zero, i.size, i.bytes)) = some (some (.string ⟨#[]⟩), 1, 16) := by kernel_rfl
theorem str_one (ts : List ByteArray) : ∀ u ∈ ts.map Value.string, u.oneCell' = true := by
  intro u hu
  obtain ⟨x, _, rfl⟩ := List.mem_map.1 hu
  rfl
theorem new_cells {W : World} {cs : List Value} {t : TypeId} {n : Nat} : n * 1 ≠ 0 → ∃ p off, (some (⟨W.heap.size, 0, none⟩ : Addr)) = some ⟨p, off, none⟩ ∧ ∀ (j : Nat) (u : Value), cs[j]? = some u → (W.alloc (.cells cs.toArray t)).cell? ⟨p, off + j, none⟩ = some u :=
  fun _ => ⟨_, 0, rfl, fun j u hj => blk_cell (blk_new W _) (by rw [Nat.zero_add]; simpa using hj)⟩
theorem StO.more {W : World} {B : Nat} {v : Value} {ts : List ByteArray} {t : ByteArray} (h : W.ownsRow B 9 1 v (ts.length + 1) (ts.map Value.string ++ [.string t])) : StO W B v (ts ++ [t]) := by
  unfold StO
  rw [List.map_append, List.length_append]
  exact h
theorem map_snoc (ts : List ByteArray) (t : ByteArray) : (ts ++ [t]).map (fun x => x.data.toList) = ts.map (fun x => x.data.toList) ++ [t.data.toList] := by simp
set_option maxHeartbeats 2000000 in
set_option maxRecDepth 20000 in
theorem RCut_any (s : ByteArray) (w : World) (hs : s.size ≤ 1000000) : Calls Tryz.prog 28 #[.string s] w fun e w' => ∃ v ts, e = .returned v ∧ ts.map (·.data.toList) = (spl s.data.toList).take 7 ∧ StO w' w.heap.size v ts ∧ Below w.heap.size w w' := by
  obtain ⟨j0, hj, hy0, hy1, hy2⟩ := info_parts infoS
  obtain ⟨l, hl⟩ : ∃ l, s.data.toList = l := ⟨_, rfl⟩
  have hsz : l.length = s.size := by rw [← hl]; exact (Lib.size_eq s).symm
  rw [hl]
  have HLS := Lib.hid hl
  have HE := Lib.hid (fun (i fr : Nat) (P : List ByteArray) => @CutS.stop l i fr (P.map (·.data.toList)))
  clear hl
  go_enter Tryz.func28, Tryz.ntmps28
  go_wp2_with fail
  go_loopw [3, 4, 5] (fun v f ix wr => ∃ (i fr : Nat) (ts : List ByteArray), fr ≤ i ∧ i ≤ s.size + 1 ∧ f = .int .i64 fr ∧ ix = .int .i64 i ∧ ts.length ≤ 7 ∧ Hid (CutS l i fr (ts.map (·.data.toList))) ∧ Hid (StO wr w.heap.size v ts) ∧ Hid (Below w.heap.size w wr)) (fun _ _ ix _ => s.size + 1 - (intOf ix).toNat)
  case atStart => exact ⟨0, 0, [], by omega, by omega, rfl, rfl, by simp, CutS.start l, ⟨rfl, Or.inl ⟨rfl, rfl⟩⟩, Below.refl _ _⟩
  case round =>
    obtain ⟨i, fr, ts, hfi, hi, rfl, rfl, hts, HS, HO, HB⟩ := hrel
    obtain ⟨a, c, e, -⟩ := Rw.Own.get (r := ⟨9, 1, u3, ts.length, ts.map Value.string⟩) HO.out
    dsimp only at e
    subst e
    have i0 : (0 : Int) ≤ (i : Int) := by omega
    have i1 : (0 : Int) ≤ (fr : Int) := by omega
    have i2 : (fr : Int) ≤ (i : Int) := by omega
    by_cases hc : i ≤ l.length ∧ ts.length < 7
    · have c1 : (i : Int) ≤ s.size := by omega
      have c2 : (ts.length : Int) < 7 := by omega
      by_cases hlt : i < s.size
      · have c4 : (i : Int) < s.size := by omega
        have c5 : ¬ (i : Int) = s.size := by omega
        have hg : l.getD i 0 = s[i] := by
          have hil : i < l.length := by omega
          rw [List.getD_eq_getElem?_getD, List.getElem?_eq_getElem hil]
          have := HLS.out
          subst this
          exact Array.getElem_toList _
        by_cases h32 : s[i] = 32
        · have d4' : ((s[i].toNat : Int) == 32) = true := by rw [h32]; rfl
          have HS2 := Lib.hid (HS.out.piece (by omega) (by rw [hg]; exact h32))
          rw [← HLS.out, ← ext_seg, ← map_snoc] at HS2
          clear hg h32
          go_wp2_with (at_builtin; refine wpList_app _ rfl (.tmp 27) (.tmp 32) 47 rfl w.heap.size 9 j0 (.string ⟨#[]⟩) 1 16 Tryz.underlying47 hj hy0 hy1 hy2 rfl (by decide) _ ts.length (ts.map Value.string) rfl (World.ownsRow.alloc HO.out _) (some ⟨wr.heap.size, 0, none⟩) 1 1 [.string (s.extract fr i)] rfl rfl new_cells (by intro u hu; simp at hu; rw [hu]; rfl) (by unfold maxLen; omega) (by omega) (by have := HB.out.size; simp; omega) ?_; intro v' w5 hown hgrow hat; have hO2 := Lib.hid (StO.more hown); have hB2 : Hid (Below w.heap.size w w5) := (bAlloc HB.out _).grown hgrow (by have := HB.out.size; simp; omega) (fun k hk => (World.ownsRow.lt HO.out k hk).1); clear hown hgrow hat)
          exact ⟨⟨i + 1, i + 1, ts ++ [s.extract fr i], by omega, by omega, by push_cast; rfl, by push_cast; rfl, by simp; omega, by rw [HLS.out] at HS2; exact HS2, hO2, hB2⟩, by simp [intOf]; omega⟩
        · have d3' : ((s[i].toNat : Int) == 32) = false := neU h32
          have HS2 := Lib.hid (HS.out.go (by omega) (by rw [hg]; exact h32))
          clear hg h32
          go_wp2_with fail
          exact ⟨⟨i + 1, fr, ts, by omega, by omega, rfl, by push_cast; rfl, hts, HS2, HO, HB⟩, by simp [intOf]; omega⟩
      · obtain rfl : i = s.size := by omega
        have HS2 := Lib.hid (HS.out.last (by omega))
        rw [← HLS.out, ← ext_seg, ← map_snoc] at HS2
        clear hlt
        go_wp2_with (at_builtin; refine wpList_app _ rfl (.tmp 27) (.tmp 32) 47 rfl w.heap.size 9 j0 (.string ⟨#[]⟩) 1 16 Tryz.underlying47 hj hy0 hy1 hy2 rfl (by decide) _ ts.length (ts.map Value.string) rfl (World.ownsRow.alloc HO.out _) (some ⟨wr.heap.size, 0, none⟩) 1 1 [.string (s.extract fr s.size)] rfl rfl new_cells (by intro u hu; simp at hu; rw [hu]; rfl) (by unfold maxLen; omega) (by omega) (by have := HB.out.size; simp; omega) ?_; intro v' w5 hown hgrow hat; have hO2 := Lib.hid (StO.more hown); have hB2 : Hid (Below w.heap.size w w5) := (bAlloc HB.out _).grown hgrow (by have := HB.out.size; simp; omega) (fun k hk => (World.ownsRow.lt HO.out k hk).1); clear hown hgrow hat)
        exact ⟨⟨s.size + 1, s.size + 1, ts ++ [s.extract fr s.size], by omega, by omega, by push_cast; rfl, by push_cast; rfl, by simp; omega, by rw [HLS.out] at HS2; exact HS2, hO2, hB2⟩, by simp [intOf]⟩
    · have hE := Lib.hid (HE.out i fr ts HS.out (by rw [List.length_map]; exact hts) (by rw [List.length_map]; exact hc))
      have hex : ¬ (i : Int) ≤ s.size ∨ ((i : Int) ≤ s.size ∧ ¬ (ts.length : Int) < 7) := by omega
      clear hc
      rcases hex with hex | ⟨hex, hex2⟩
      · go_wp2_with fail
        exact bodyPost_ret (v := .slice a ts.length c) (by simp only [results, Tryz.results28]; go_simp) rfl ⟨_, rfl, ts, hE.out.symm, HO.out, HB.out⟩
      · go_wp2_with fail
        exact bodyPost_ret (v := .slice a ts.length c) (by simp only [results, Tryz.results28]; go_simp) rfl ⟨_, rfl, ts, hE.out.symm, HO.out, HB.out⟩
end Go.Proofs.YtdelgbdiofkndaaGreatDoor

/-
  The program's number of a piece: the closure of Parse.
-/
set_option linter.unusedSimpArgs false
set_option linter.unusedVariables false
namespace Go.Proofs.YtdelgbdiofkndaaGreatDoor
open Sx Go.RowKit Mr
/-- What ParseInt returns, error or not. -/
def pvS (z : List UInt8) : Int := match Lib.parseIntB 64 z with
  | .ok v => v
  | .range => Lib.intSat 64 z
  | _ => 0
theorem pvS_reads (z : List UInt8) : Reads z (pvS z) := reads_parse fun u h => by unfold pvS; rw [h]
theorem parse_pv (s : ByteArray) (w : World) (hs : s.size ≤ 1000000) (hG : GlobP w) :
    Calls Tryz.prog 27 #[.string s, .int .i64 10, .int .i64 64] w fun e w' => (∃ x, e = .returned (.tuple #[.int .i64 (pvS s.data.toList), x])) ∧ Below w.heap.size w w' := by
  obtain ⟨-, ⟨t1, v1, h1⟩, ⟨t2, v2, h2⟩, -⟩ := hG
  have k1 := World.var?_cell rngG_is h1 0
  have k2 := World.var?_cell synG_is h2 0
  unfold pvS
  rcases hn : Lib.parseIntB 64 s.data.toList with v | _ | _
  · refine (Any.strconv_ParseInt_10_at64_ok laysC174 s (by omega) v hn w).mono fun e w' h => ?_
    obtain ⟨rfl, hw⟩ := h
    refine ⟨⟨_, rfl⟩, ?_⟩
    rcases hw with rfl | ⟨t, rfl⟩
    · exact Below.refl _ _
    · exact Lib.bytesWorld_below _ _ _
  · refine (Any.strconv_ParseInt_10_at64_syntax laysC174 s (by omega) hn _ w (by rw [show laysC174_ren.g 15 = synG by kernel_rfl]; simpa using k2) (Or.inr ⟨_, _, rfl⟩)).mono fun e w' h => ?_
    obtain ⟨N, rfl, -, -, hb⟩ := h
    exact ⟨⟨_, rfl⟩, hb⟩
  · refine (Any.strconv_ParseInt_10_at64_range laysC174 s (by omega) hn _ w (by rw [show laysC174_ren.g 16 = rngG by kernel_rfl]; simpa using k1) (Or.inr ⟨_, _, rfl⟩)).mono fun e w' h => ?_
    obtain ⟨N, rfl, -, -, hb⟩ := h
    exact ⟨⟨_, rfl⟩, hb⟩
set_option maxRecDepth 20000 in
theorem Num_any (i lb g n c : Nat) (z : ByteArray) (w : World) (hl : w.cell? ⟨lb, 0, none⟩ = some (.slice (some ⟨g, 0, none⟩) n c)) (hc : w.cell? ⟨g, i, none⟩ = some (.string z)) (hi : i < n) (hi2 : i < 10) (hz : z.size ≤ 1000000) (hG : Glob0 w) :
    Calls Tryz.prog 26 #[.int .i64 i, .pointer (some ⟨lb, 0, none⟩)] w fun e w' => e = .returned (.int .i64 (pvS z.data.toList)) ∧ Below w.heap.size w w' := by
  have C := Lib.hid (parse_pv z w hz hG.1)
  have hi3 : (i : Int) < n := by omega
  clear hG hz
  generalize pvS z.data.toList = v at *
  go_enter Tryz.func26, Tryz.ntmps26
  go_wp2_with (go_at_call 27; refine C.out.mono ?_; rintro e w1 ⟨⟨x, rfl⟩, hb1⟩)
  exact bodyPost_ret (v := .int .i64 v) (by simp only [results, Tryz.results26]; go_simp) rfl ⟨rfl, (by repeat' (first | exact Below.refl _ _ | assumption | apply bDrewN | apply bDrew | apply bAlloc | (refine bSet ?_ ?_ _) | (refine bStep ?_ (by assumption)) | omega | (simp <;> omega)))⟩
end Go.Proofs.YtdelgbdiofkndaaGreatDoor

/-
  What both Parse hold: the pieces' row, the event's box.
-/
set_option linter.unusedSimpArgs false
set_option linter.unusedVariables false
namespace Go.Proofs.YtdelgbdiofkndaaGreatDoor
open Sx Go.RowKit Mr
def evZ : Array Value := #[.int .i64 0, .int .i64 0, .int .i64 0, .int .i64 0, .string ⟨#[]⟩, .string ⟨#[]⟩]
def zR (g c : Nat) (zs : List ByteArray) : Rw := ⟨9, 1, .slice (some ⟨g, 0, none⟩) zs.length c, zs.length, zs.map Value.string⟩
structure PZ (w : World) (K : List (Nat × Obj)) (g c bx : Nat) (zs : List ByteArray) (cs : Array Value) (W : World) : Prop where
  ex : ∃ L, MR w w.heap.size L (o1 (some (zR g c zs))) W ∧ (∀ q ∈ K, L q.1 = some q.2) ∧ L bx = some (.cells cs 23 (0, 0))
  hK : ∀ q ∈ K, q.1 ≠ bx
  hw : w.heap.size ≤ bx
section
variable {w W w2 : World} {K : List (Nat × Obj)} {g c bx : Nat} {zs : List ByteArray} {cs : Array Value}
theorem PZ.step (h : PZ w K g c bx zs cs W) (hb : Below W.heap.size W w2) : PZ w K g c bx zs cs w2 := by
  obtain ⟨⟨L, h1, h2, h3⟩, h4, h5⟩ := h
  exact ⟨⟨L, h1.step hb, h2, h3⟩, h4, h5⟩
theorem PZ.bel (h : PZ w K g c bx zs cs W) : Below w.heap.size w W := by
  obtain ⟨⟨L, h1, h2, h3⟩, h4, h5⟩ := h
  exact h1.bel
theorem PZ.ev (h : PZ w K g c bx zs cs W) : W.heap[bx]? = some (.cells cs 23 (0, 0)) := by
  obtain ⟨⟨L, h1, h2, h3⟩, h4, h5⟩ := h
  exact h1.sb _ _ h3
theorem PZ.obj (h : PZ w K g c bx zs cs W) {q : Nat × Obj} (hq : q ∈ K) : W.heap[q.1]? = some q.2 := by
  obtain ⟨⟨L, h1, h2, h3⟩, h4, h5⟩ := h
  exact h1.sb _ _ (h2 q hq)
theorem PZ.piece (h : PZ w K g c bx zs cs W) {j : Nat} {z : ByteArray} (hj : zs[j]? = some z) : W.cell? ⟨g, j, none⟩ = some (.string z) := by
  obtain ⟨⟨L, h1, h2, h3⟩, h4, h5⟩ := h
  have hjl := (List.getElem?_eq_some_iff.1 hj).1
  obtain ⟨a, c', e1, e2⟩ := (h1.own 0 _ rfl).get
  obtain ⟨g', rfl, -, q⟩ := e2 (by show zs.length * 1 ≠ 0; omega)
  cases e1
  exact q j _ (by show (zs.map Value.string)[j]? = _; rw [List.getElem?_map, hj]; rfl)
theorem PZ.set (h : PZ w K g c bx zs cs W) (o : Nat) (u : Value) : PZ w K g c bx zs (cs.setIfInBounds o u) (W.setCell ⟨bx, o, none⟩ u) := by
  obtain ⟨⟨L, h1, h2, h3⟩, h4, h5⟩ := h
  refine ⟨⟨_, h1.store h3 h5, fun q hq => ?_, updF_at⟩, h4, h5⟩
  rw [updF_ne (h4 q hq)]
  exact h2 q hq
end
/-- The pieces of a text. -/
def pcz (s : ByteArray) : List ByteArray := Lib.splitB ⟨#[32]⟩ 0 (Lib.countB s ⟨#[32]⟩) s
theorem pcz_spl (s : ByteArray) : (pcz s).map (·.data.toList) = spl s.data.toList := by
  unfold pcz spl
  rw [Lib.splitB_data]
  congr 1
  rw [← Lib.count_one]
theorem split_any (s : ByteArray) (w : World) (hs : s.size ≤ 1000000) (hG : Glob0 w) :
    Calls Tryz.prog 25 #[.string s, .string ⟨#[32]⟩] w fun e w' => e = .returned (.slice (some ⟨w.heap.size, 0, none⟩) (pcz s).length (pcz s).length) ∧ w' = w.alloc (.cells ((pcz s).map Value.string).toArray 9) := by
  obtain ⟨m, hm⟩ := hG.1.max
  have hl : (pcz s).length = Lib.countB s ⟨#[32]⟩ + 1 := Lib.splitB_all ⟨#[32]⟩ (by decide) 0 _ s rfl
  rw [hl]
  exact Any.strings_Split lays146 (by kernel_rfl) s ⟨#[32]⟩ m w (by omega) (by rw [show lays146_ren.g 1 = maxG by kernel_rfl]; exact hm) (by decide)
theorem pcz_len (s : ByteArray) : (pcz s).length ≤ s.size + 1 := by
  have hl : (pcz s).length = Lib.countB s ⟨#[32]⟩ + 1 := Lib.splitB_all ⟨#[32]⟩ (by decide) 0 _ s rfl
  have h2 : (spl s.data.toList).length = (pcz s).length := by rw [← pcz_spl, List.length_map]
  have h3 : ∀ l : List UInt8, (brk l).length ≤ l.length + 1 := by
    intro l
    induction l with
    | nil => simp [brk]
    | cons x l ih =>
      rw [brk]
      have hne := brk_ne l
      split
      · simp only [List.length_cons]; omega
      · cases hb : brk l with
        | nil => exact absurd hb hne
        | cons y ys => rw [hb] at ih; simp only [List.length_cons] at ih ⊢; omega
  have h4 := h3 s.data.toList
  rw [← brk_spl, h2, ← Lib.size_eq] at h4
  exact h4
def em5 : List ByteArray := [⟨#[]⟩, ⟨#[]⟩, ⟨#[]⟩, ⟨#[]⟩, ⟨#[]⟩]
/-- Piece j, empty if there is none. -/
def zj (l : List UInt8) (j : Nat) : ByteArray := ⟨((spl l).getD j []).toArray⟩
theorem zj_toL (l : List UInt8) (j : Nat) : (zj l j).data.toList = (spl l).getD j [] := rfl
theorem zj_of {l : List UInt8} {ts : List ByteArray} {m j : Nat} (h : ts.map (·.data.toList) = (spl l).take m) (hm : j < m) (hj : j < 5) : (ts ++ em5)[j]? = some (zj l j) := by
  have hlen : ts.length = min m (spl l).length := by rw [← List.length_take, ← h, List.length_map]
  by_cases c : j < ts.length
  · rw [List.getElem?_append_left c, List.getElem?_eq_getElem c]
    congr 1
    refine ba_inj ?_
    rw [zj_toL]
    have e : (ts.map (·.data.toList))[j]? = ((spl l).take m)[j]? := by rw [h]
    rw [List.getElem?_map, List.getElem?_eq_getElem c, List.getElem?_take_of_lt hm] at e
    rw [List.getD_eq_getElem?_getD, ← e]
    rfl
  · rw [List.getElem?_append_right (by omega)]
    have e1 : (spl l).length ≤ j := by omega
    have e2 : zj l j = ⟨#[]⟩ := by
      unfold zj
      rw [List.getD_eq_getElem?_getD, List.getElem?_eq_none e1]
      rfl
    rw [e2]
    have hk : j - ts.length < 5 := by omega
    have : ∀ k, k < 5 → em5[k]? = some ⟨#[]⟩ := by
      intro k hk
      match k, hk with
      | 0, _ => rfl
      | 1, _ => rfl
      | 2, _ => rfl
      | 3, _ => rfl
      | 4, _ => rfl
    exact this _ hk
theorem zj_size {l : List UInt8} {n : Nat} (h : l.length ≤ n) (j : Nat) : (zj l j).size ≤ n := by
  have h1 := spl_join l
  have key : ∀ (L : List (List UInt8)) (z : List UInt8), z ∈ L → z.length ≤ (Lib.join L [32]).length := by
    intro L
    induction L with
    | nil => intro z hz; cases hz
    | cons x L ih =>
      intro z hz
      rw [Lib.join_cons, List.length_append]
      rcases List.mem_cons.1 hz with rfl | hz
      · omega
      · cases L with
        | nil => cases hz
        | cons y L =>
          have := ih z hz
          rw [tail_cons, ← Lib.join_cons]
          simp only [List.length_cons]
          omega
  rw [Lib.size_eq, zj_toL, List.getD_eq_getElem?_getD]
  cases hg : (spl l)[j]? with
  | none => simp
  | some z =>
    have := key _ z (List.mem_of_getElem? hg)
    rw [h1] at this
    show z.length ≤ n
    omega
end Go.Proofs.YtdelgbdiofkndaaGreatDoor

/-
  Parse of package passport: up to the switch.
-/
set_option linter.unusedSimpArgs false
set_option linter.unusedVariables false
namespace Go.Proofs.YtdelgbdiofkndaaGreatDoor
open Sx Go.RowKit Mr
theorem ev_open {W : World} {b : Nat} {x0 x1 x2 x3 x4 x5 : Value} (h : W.heap[b]? = some (.cells #[x0, x1, x2, x3, x4, x5] 23 (0, 0))) :
    W.cell? ⟨b, 0, none⟩ = some x0 ∧ W.cell? ⟨b, 1, none⟩ = some x1 ∧ W.cell? ⟨b, 2, none⟩ = some x2 ∧ W.cell? ⟨b, 3, none⟩ = some x3 ∧ W.cell? ⟨b, 4, none⟩ = some x4 ∧ W.cell? ⟨b, 5, none⟩ = some x5 ∧
    W.frozen? ⟨b, 0, none⟩ = false ∧ W.frozen? ⟨b, 1, none⟩ = false ∧ W.frozen? ⟨b, 2, none⟩ = false ∧ W.frozen? ⟨b, 3, none⟩ = false ∧ W.frozen? ⟨b, 4, none⟩ = false ∧ W.frozen? ⟨b, 5, none⟩ = false ∧ b < W.heap.size :=
  ⟨blk_cell h rfl, blk_cell h rfl, blk_cell h rfl, blk_cell h rfl, blk_cell h rfl, blk_cell h rfl, blk_free h, blk_free h, blk_free h, blk_free h, blk_free h, blk_free h, blk_lt h⟩
theorem one_open {W : World} {b : Nat} {x : Value} {t : TypeId} (h : W.heap[b]? = some (.cells #[x] t (0, 0))) : W.cell? ⟨b, 0, none⟩ = some x ∧ W.frozen? ⟨b, 0, none⟩ = false ∧ b < W.heap.size := ⟨blk_cell h rfl, blk_free h, blk_lt h⟩
/-- The boxes that stay: the result's and the pieces'. -/
def KP (w : World) (g n c : Nat) : List (Nat × Obj) := [(w.heap.size, .cells evZ 23 (0, 0)), (w.heap.size + 1 + 1, .cells #[.slice (some ⟨g, 0, none⟩) n c] 47 (0, 0))]
/-- Ahead of the append. -/
theorem pz_ahead (w : World) (ts : List ByteArray) (hl : ts.length ≤ maxLen) : ∃ L, MR w w.heap.size L (o1 (some ⟨9, 1, .slice (some ⟨w.heap.size + 1, 0, none⟩) ts.length ts.length, ts.length, ts.map Value.string⟩))
      ((((w.alloc (.cells evZ 23)).alloc (.cells (ts.map Value.string).toArray 9)).alloc (.cells #[.slice (some ⟨w.heap.size + 1, 0, none⟩) ts.length ts.length] 47)).alloc (.cells (em5.map Value.string).toArray 9)) ∧
      L w.heap.size = some (.cells evZ 23 (0, 0)) ∧ L (w.heap.size + 1 + 1) = some (.cells #[.slice (some ⟨w.heap.size + 1, 0, none⟩) ts.length ts.length] 47 (0, 0)) := by
  have h0 : MR w w.heap.size (fun _ => none) (fun _ => none) w := MR.start (Nat.le_refl _) (Below.refl _ _) (Nat.le_refl _) fun p o e => by cases e
  have h1 := h0.obj (.cells evZ 23 (0, 0))
  have h2 := h1.fresh 0 (ts.map Value.string).toArray 9 1 ts.length hl (by simp)
  have h4 := h2.obj (.cells #[.slice (some ⟨w.heap.size + 1, 0, none⟩) ts.length ts.length] 47 (0, 0))
  have s1 : (w.alloc (.cells evZ 23)).heap.size = w.heap.size + 1 := by simp
  have s2 : ((w.alloc (.cells evZ 23)).alloc (.cells (ts.map Value.string).toArray 9)).heap.size = w.heap.size + 1 + 1 := by simp
  rw [s1, s2] at h4
  have h5 := h4.step (bAl (o := .cells (em5.map Value.string).toArray 9))
  refine ⟨_, h5.congr fun s => ?_, ?_, ?_⟩
  · unfold o1 updF
    by_cases c : s = 0 <;> simp [c]
  · rw [updF_ne (by omega), updF_at]
  · rw [updF_at]
theorem pz_cells (w : World) (ts : List ByteArray) : 5 * 1 ≠ 0 → ∃ p off, (some (⟨w.heap.size + 1 + 1 + 1, 0, none⟩ : Addr)) = some ⟨p, off, none⟩ ∧ ∀ (j : Nat) (u : Value), (em5.map Value.string)[j]? = some u →
    ((((w.alloc (.cells evZ 23)).alloc (.cells (ts.map Value.string).toArray 9)).alloc (.cells #[.slice (some ⟨w.heap.size + 1, 0, none⟩) ts.length ts.length] 47)).alloc (.cells (em5.map Value.string).toArray 9)).cell? ⟨p, off + j, none⟩ = some u := by
  have h := new_cells (W := ((w.alloc (.cells evZ 23)).alloc (.cells (ts.map Value.string).toArray 9)).alloc (.cells #[.slice (some ⟨w.heap.size + 1, 0, none⟩) ts.length ts.length] 47)) (cs := em5.map Value.string) (t := 9) (n := 5)
  rw [show (((w.alloc (.cells evZ 23)).alloc (.cells (ts.map Value.string).toArray 9)).alloc (.cells #[.slice (some ⟨w.heap.size + 1, 0, none⟩) ts.length ts.length] 47)).heap.size = w.heap.size + 1 + 1 + 1 by simp] at h
  exact h
/-- Behind it. -/
theorem pz_behind {w W4 w5 : World} {ts : List ByteArray} {v' : Value} (h : ∃ L, MR w w.heap.size L (o1 (some ⟨9, 1, .slice (some ⟨w.heap.size + 1, 0, none⟩) ts.length ts.length, ts.length, ts.map Value.string⟩)) W4 ∧
      L w.heap.size = some (.cells evZ 23 (0, 0)) ∧ L (w.heap.size + 1 + 1) = some (.cells #[.slice (some ⟨w.heap.size + 1, 0, none⟩) ts.length ts.length] 47 (0, 0)))
    (ho : w5.ownsRow w.heap.size 9 1 v' (ts.length + 5) (ts.map Value.string ++ em5.map Value.string)) (hg : W4.grownBy w5 (some (w.heap.size + 1))) (hat : v'.ownBlock = some (w.heap.size + 1) ∨ v'.ownBlock = some W4.heap.size) :
    ∃ g c, v' = .slice (some ⟨g, 0, none⟩) (ts.length + 5) c ∧ w.heap.size + 1 + 1 + 1 ≤ w5.heap.size ∧ (∃ cs, w5.heap[w.heap.size + 1 + 1]? = some (.cells #[cs] 47 (0, 0))) ∧ PZ w (KP w g (ts.length + 5) c) g c w5.heap.size (ts ++ em5) evZ ((w5.setCell ⟨w.heap.size + 1 + 1, 0, none⟩ v').alloc (.cells evZ 23)) := by
  obtain ⟨L, h1, h2, h3⟩ := h
  have ho' : (⟨9, 1, v', (ts ++ em5).length, (ts ++ em5).map Value.string⟩ : Rw).Own w5 w.heap.size := by
    show w5.ownsRow w.heap.size 9 1 v' (ts ++ em5).length ((ts ++ em5).map Value.string)
    rw [List.length_append, List.map_append]
    exact ho
  have k1 := h1.app 0 (r' := ⟨9, 1, v', (ts ++ em5).length, (ts ++ em5).map Value.string⟩) rfl ho' hg hat
  have k2 := k1.store (o := 0) (u := v') h3 (by omega)
  have k3 := k2.obj (.cells evZ 23 (0, 0))
  obtain ⟨a, c, e1, e2⟩ := ho'.get
  obtain ⟨g, rfl, hgl, -⟩ := e2 (by simp [em5])
  dsimp only at e1
  have hl : (ts ++ em5).length = ts.length + 5 := by rw [List.length_append]; rfl
  rw [hl] at e1
  have b3 := k1.sb _ _ h3
  have b4 := blk_lt b3
  have hsz : (w5.setCell ⟨w.heap.size + 1 + 1, 0, none⟩ v').heap.size = w5.heap.size := by simp
  rw [hsz] at k3
  refine ⟨g, c, e1, by omega, ⟨_, b3⟩, ⟨_, k3.congr fun s => ?_, fun q hq => ?_, updF_at⟩, fun q hq => ?_, by omega⟩
  · rw [o1_upd]
    unfold zR
    rw [hl, e1]
  · unfold KP at hq
    simp only [List.mem_cons, List.not_mem_nil, or_false] at hq
    rcases hq with rfl | rfl
    · rw [updF_ne (by show w.heap.size ≠ w5.heap.size; omega), updF_ne (by show w.heap.size ≠ w.heap.size + 1 + 1; omega)]
      exact h2
    · rw [updF_ne (by show w.heap.size + 1 + 1 ≠ w5.heap.size; omega), updF_at, e1]
      rfl
  · unfold KP at hq
    simp only [List.mem_cons, List.not_mem_nil, or_false] at hq
    rcases hq with rfl | rfl
    · show w.heap.size ≠ w5.heap.size; omega
    · show w.heap.size + 1 + 1 ≠ w5.heap.size; omega
theorem pz_num {w W : World} {g c bx m : Nat} {zs : List ByteArray} {cs : Array Value} {z : ByteArray} (i : Nat) (h : PZ w (KP w g m c) g c bx zs cs W) (hz : zs[i]? = some z) (hm : zs.length = m) (hi : i < 10) (hs : z.size ≤ 1000000) (hG : Glob0 W) :
    Calls Tryz.prog 26 #[.int .i64 i, .pointer (some ⟨w.heap.size + 1 + 1, 0, none⟩)] W fun e w' => e = .returned (.int .i64 (pvS z.data.toList)) ∧ PZ w (KP w g m c) g c bx zs cs w' := by
  have hil := (List.getElem?_eq_some_iff.1 hz).1
  have hb : W.heap[w.heap.size + 1 + 1]? = some (.cells #[.slice (some ⟨g, 0, none⟩) m c] 47 (0, 0)) := h.obj (q := (w.heap.size + 1 + 1, .cells #[.slice (some ⟨g, 0, none⟩) m c] 47 (0, 0))) (by simp [KP])
  refine (Num_any i (w.heap.size + 1 + 1) g m c z W (blk_cell hb rfl) (h.piece hz) (by omega) hi hs hG).mono fun e w' q => ?_
  exact ⟨q.1, h.step q.2⟩
theorem pz_lb {w W : World} {g c bx m : Nat} {zs : List ByteArray} {cs : Array Value} (h : PZ w (KP w g m c) g c bx zs cs W) : W.cell? ⟨w.heap.size + 1 + 1, 0, none⟩ = some (.slice (some ⟨g, 0, none⟩) m c) ∧ W.frozen? ⟨w.heap.size + 1 + 1, 0, none⟩ = false ∧ w.heap.size + 1 + 1 < W.heap.size :=
  one_open (h.obj (q := (w.heap.size + 1 + 1, .cells #[.slice (some ⟨g, 0, none⟩) m c] 47 (0, 0))) (by simp [KP]))
theorem pz_res {w W : World} {g c bx m : Nat} {zs : List ByteArray} {cs : Array Value} (h : PZ w (KP w g m c) g c bx zs cs W) : W.heap[w.heap.size]? = some (.cells evZ 23 (0, 0)) :=
  h.obj (q := (w.heap.size, .cells evZ 23 (0, 0))) (by simp [KP])
theorem pz_ne {w W : World} {g c bx m : Nat} {zs : List ByteArray} {cs : Array Value} (h : PZ w (KP w g m c) g c bx zs cs W) (h0 : zs ≠ []) : bx ≠ w.heap.size ∧ bx ≠ w.heap.size + 1 + 1 ∧ g ≠ bx := by
  refine ⟨fun e => ?_, fun e => ?_, fun e => ?_⟩
  · exact h.hK (w.heap.size, .cells evZ 23 (0, 0)) (by simp [KP]) e.symm
  · exact h.hK (w.heap.size + 1 + 1, .cells #[.slice (some ⟨g, 0, none⟩) m c] 47 (0, 0)) (by simp [KP]) e.symm
  · obtain ⟨⟨L, h1, h2, h3⟩, h4, h5⟩ := h
    exact h1.hL bx _ 0 _ h3 rfl (by rw [← e]; rfl)
section
variable {w W : World} {K : List (Nat × Obj)} {g c bx : Nat} {zs : List ByteArray} {x0 x1 x2 x3 x4 x5 : Value}
theorem PZ.set0 (h : PZ w K g c bx zs #[x0, x1, x2, x3, x4, x5] W) (u : Value) : PZ w K g c bx zs #[u, x1, x2, x3, x4, x5] (W.setCell ⟨bx, 0, none⟩ u) := h.set 0 u
theorem PZ.set1 (h : PZ w K g c bx zs #[x0, x1, x2, x3, x4, x5] W) (u : Value) : PZ w K g c bx zs #[x0, u, x2, x3, x4, x5] (W.setCell ⟨bx, 1, none⟩ u) := h.set 1 u
theorem PZ.set2 (h : PZ w K g c bx zs #[x0, x1, x2, x3, x4, x5] W) (u : Value) : PZ w K g c bx zs #[x0, x1, u, x3, x4, x5] (W.setCell ⟨bx, 2, none⟩ u) := h.set 2 u
theorem PZ.set3 (h : PZ w K g c bx zs #[x0, x1, x2, x3, x4, x5] W) (u : Value) : PZ w K g c bx zs #[x0, x1, x2, u, x4, x5] (W.setCell ⟨bx, 3, none⟩ u) := h.set 3 u
theorem PZ.set4 (h : PZ w K g c bx zs #[x0, x1, x2, x3, x4, x5] W) (u : Value) : PZ w K g c bx zs #[x0, x1, x2, x3, u, x5] (W.setCell ⟨bx, 4, none⟩ u) := h.set 4 u
theorem PZ.set5 (h : PZ w K g c bx zs #[x0, x1, x2, x3, x4, x5] W) (u : Value) : PZ w K g c bx zs #[x0, x1, x2, x3, x4, u] (W.setCell ⟨bx, 5, none⟩ u) := h.set 5 u
end
theorem res_cell {P : Program} {fn : Func} {tmps : Array Value} {W : World} {a e : Nat} {t : TypeId} {p : Addr} {v u : Value} (hr : fn.results = #[.cell a t, .tmp e]) (ha : tmps.getD a undef = .pointer (some p)) (hl : (loadVar t p).run P W = .ok v W) (he : tmps.getD e undef = u) : (results fn tmps).run P W = .ok (.tuple #[v, u]) W := by
  unfold results
  rw [hr]
  simp only [List.mapM_toArray, List.mapM_cons, List.mapM_nil, ha, he, asAddr, Sem.run_bind, Sem.run_pure, Result.andThen_ok, hl, map_eq_pure_bind, bind_assoc, pure_bind]
  rfl
theorem ev_size : (Tryz.prog.info? 23).map (·.size) = some 6 := by kernel_rfl
theorem ev_load {W : World} {b : Nat} {x0 x1 x2 x3 x4 x5 : Value} (h : W.heap[b]? = some (.cells #[x0, x1, x2, x3, x4, x5] 23 (0, 0))) : (loadVar 23 ⟨b, 0, none⟩).run Tryz.prog W = .ok (.agg #[x0, x1, x2, x3, x4, x5]) W :=
  run_loadVar_mid W b 0 23 [x0, x1, x2, x3, x4, x5] _ (fun j v hv => blk_cell h (by rw [Nat.zero_add]; simpa using hv)) Tryz.underlying23 rfl ev_size
theorem ev_put {W : World} {b : Nat} {x0 x1 x2 x3 x4 x5 u0 u1 u2 u3 u4 u5 : Value} {t : TypeId} (h : W.heap[b]? = some (.cells #[x0, x1, x2, x3, x4, x5] t (0, 0))) :
    ((((((W.setCell ⟨b, 0, none⟩ u0).setCell ⟨b, 1, none⟩ u1).setCell ⟨b, 2, none⟩ u2).setCell ⟨b, 3, none⟩ u3).setCell ⟨b, 4, none⟩ u4).setCell ⟨b, 5, none⟩ u5).heap[b]? = some (.cells #[u0, u1, u2, u3, u4, u5] t (0, 0)) :=
  blk_set (blk_set (blk_set (blk_set (blk_set (blk_set h)))))
theorem ev_bel {w W : World} {b : Nat} {u0 u1 u2 u3 u4 u5 : Value} (h : Below w.heap.size w W) (hb : w.heap.size ≤ b) :
    Below w.heap.size w ((((((W.setCell ⟨b, 0, none⟩ u0).setCell ⟨b, 1, none⟩ u1).setCell ⟨b, 2, none⟩ u2).setCell ⟨b, 3, none⟩ u3).setCell ⟨b, 4, none⟩ u4).setCell ⟨b, 5, none⟩ u5) :=
  (((((h.setCell hb _).setCell hb _).setCell hb _).setCell hb _).setCell hb _).setCell hb _
/-- What both Parse return. -/
noncomputable def paV : Option E6 → Value
  | some (k, t, a, b, nm, ot) => .tuple #[.agg #[.int .i64 k, .int .i64 t, .int .i64 a, .int .i64 b, .string nm, .string ot], .int .i64 0]
  | none => .tuple #[.agg #[.int .i64 0, .int .i64 0, .int .i64 0, .int .i64 0, .string ⟨#[]⟩, .string ⟨#[]⟩], .int .i64 8]
def zV : Value := .tuple #[.agg #[.int .i64 0, .int .i64 0, .int .i64 0, .int .i64 0, .string ⟨#[]⟩, .string ⟨#[]⟩], .int .i64 8]
/-- The ways of the end: the text is the same, is another one, there is none. -/
def TC (s : ByteArray) (R : Value) (k t a b : Int) (nm ot : ByteArray) : Prop :=
  (txR k t a b nm ot = (s, 0) ∧ R = .tuple #[.agg #[.int .i64 k, .int .i64 t, .int .i64 a, .int .i64 b, .string nm, .string ot], .int .i64 0]) ∨
  (∃ x, txR k t a b nm ot = (x, 0) ∧ ¬ x = s ∧ R = zV) ∨ (txR k t a b nm ot = (⟨#[]⟩, 2) ∧ R = zV)
theorem tc_of {s : ByteArray} {k t a b v1 v2 v3 : Int} {nm ot : ByteArray} (h1 : Reads ((spl s.data.toList).getD 1 []) v1) (h2 : Reads ((spl s.data.toList).getD 2 []) v2) (h3 : Reads ((spl s.data.toList).getD 3 []) v3)
    (he : mkE ((spl s.data.toList).getD 0 []) ((spl s.data.toList).getD 2 []) ((spl s.data.toList).getD 3 []) ((spl s.data.toList).getD 4 []) v1 v2 v3 = (k, t, a, b, nm, ot)) : TC s (paV (parE s.data.toList)) k t a b nm ot := by
  unfold TC txR
  by_cases h : okE k t a b nm ot = true
  · rw [if_pos h]
    by_cases e : txT (k, t, a, b, nm, ot) = s.data.toList
    · have e2 : (⟨(textE (evL k t a b nm ot)).toArray⟩ : ByteArray) = s := ba_inj e
      rw [parE_good (e := (k, t, a, b, nm, ot)) h e, e2]
      exact Or.inl ⟨rfl, rfl⟩
    · rw [parE_bad h1 h2 h3 he (fun q => e q.2)]
      exact Or.inr (Or.inl ⟨_, rfl, fun q => e (by rw [← q]; rfl), rfl⟩)
  · rw [if_neg h, parE_bad h1 h2 h3 he (fun q => h q.1)]
    exact Or.inr (Or.inr ⟨rfl, rfl⟩)
theorem z_eq {z : ByteArray} {l : List UInt8} (h : z.data.toList = l) : (z.toList == l) = true := by rw [Lib.toList_data, h]; simp
theorem z_ne {z : ByteArray} {l : List UInt8} (h : z.data.toList ≠ l) : (z.toList == l) = false := by
  rw [Lib.toList_data]
  simpa using h
end Go.Proofs.YtdelgbdiofkndaaGreatDoor
