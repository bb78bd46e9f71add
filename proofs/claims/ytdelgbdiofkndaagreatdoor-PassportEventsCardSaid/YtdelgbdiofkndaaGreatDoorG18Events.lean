/-
  Guards as texts: the plain law.
-/
import Derived.Test.YtdelgbdiofkndaaGreatDoorG17Events
import Derived.Lib.Split
import Derived.Lib.SplitLaws
import Derived.Lib.ParseIntBTie
import Derived.Test.YtdelgbdiofkndaaGreatDoorG10Events
import Derived.Test.YtdelgbdiofkndaaGreatDoorG13Events
import Derived.Test.YtdelgbdiofkndaaGreatDoorG16Events
set_option linter.unusedSimpArgs false
set_option linter.unusedVariables false
namespace Go.Proofs.YtdelgbdiofkndaaGreatDoor

/-! Texts cut at spaces. -/
theorem take_at {l : List UInt8} {i : Nat} {c : UInt8} (h : l[i]? = some c) : l = l.take i ++ c :: l.drop (i + 1) := by
  obtain ⟨hi, hc⟩ := List.getElem?_eq_some_iff.1 h
  conv => lhs; rw [← List.take_append_drop i l]
  rw [List.drop_eq_getElem_cons hi, hc]
theorem splitK_all : ∀ (k : Nat) (l : List UInt8), l.count 32 = k → Lib.join (Lib.splitK [32] 0 k l) [32] = l ∧ (∀ z ∈ Lib.splitK [32] 0 k l, Sp z) ∧ Lib.splitK [32] 0 k l ≠ []
  | 0, l, h => by
    refine ⟨Lib.join_one _ _, fun z hz => ?_, by simp [Lib.splitK]⟩
    obtain rfl : z = l := by simpa [Lib.splitK] using hz
    intro c hc e
    have : c = 32 := UInt8.toNat_inj.1 e
    subst this
    exact absurd (List.count_pos_iff.2 hc) (by omega)
  | k + 1, l, h => by
    rw [Lib.splitK]
    by_cases hx : Lib.index l [32] = -1
    · exfalso
      rw [Lib.index_one] at hx
      have h2 : 0 < l.count 32 := by omega
      obtain ⟨i, hi⟩ := List.getElem?_of_mem (List.count_pos_iff.1 h2)
      exact Lib.indexByte_none hx i hi
    · obtain ⟨i, hi⟩ := Int.eq_ofNat_of_zero_le (show 0 ≤ Lib.index l [32] by have := Lib.index_ge l [32]; omega)
      rw [if_neg (by rw [beq_iff_eq]; exact hx), hi]
      rw [Lib.index_one] at hi
      obtain ⟨h1, h2⟩ := Lib.indexByte_some hi
      have hl := take_at h1
      have hsp : Sp (l.take i) := by
        intro c hc e
        have : c = 32 := UInt8.toNat_inj.1 e
        subst this
        obtain ⟨j, hj⟩ := List.getElem?_of_mem hc
        have hji : j < i := by
          have := (List.getElem?_eq_some_iff.1 hj).1
          rw [List.length_take] at this; omega
        rw [List.getElem?_take_of_lt hji] at hj
        exact h2 j hji hj
      have h0 : (l.take i).count 32 = 0 := List.count_eq_zero.2 fun hc => hsp 32 hc rfl
      have hk : (l.drop (i + 1)).count 32 = k := by
        rw [hl, List.count_append, List.count_cons_self, h0] at h
        omega
      obtain ⟨e1, e2, e3⟩ := splitK_all k _ hk
      simp only [Int.toNat_natCast, Nat.add_zero, List.length_cons, List.length_nil, Nat.zero_add]
      refine ⟨?_, fun z hz => ?_, by simp⟩
      · generalize hr : Lib.splitK [32] 0 k (l.drop (i + 1)) = r at *
        cases r with
        | nil => exact absurd rfl e3
        | cons y r =>
          rw [Lib.join_cons, tail_cons, ← Lib.join_cons, e1]
          exact hl.symm
      · rcases List.mem_cons.1 hz with rfl | hz
        · exact hsp
        · exact e2 z hz
/-- A text's pieces between spaces. -/
def spl (l : List UInt8) : List (List UInt8) := Lib.splitK [32] 0 (l.count 32) l
theorem spl_join (l : List UInt8) : Lib.join (spl l) [32] = l := (splitK_all _ l rfl).1
theorem spl_sp (l : List UInt8) : ∀ z ∈ spl l, Sp z := (splitK_all _ l rfl).2.1
theorem spl_ne (l : List UInt8) : spl l ≠ [] := (splitK_all _ l rfl).2.2
theorem spl_of {x : List UInt8} {xs : List (List UInt8)} (h : ∀ z ∈ x :: xs, Sp z) : spl (Lib.join (x :: xs) [32]) = x :: xs := by
  have h1 := spl_join (Lib.join (x :: xs) [32])
  have h2 := spl_sp (Lib.join (x :: xs) [32])
  have h3 := spl_ne (Lib.join (x :: xs) [32])
  generalize spl (Lib.join (x :: xs) [32]) = r at *
  cases r with
  | nil => exact absurd rfl h3
  | cons y ys => exact join_inj h2 h h1


/-! Guards. -/
def gW : List UInt8 := [103, 117, 97, 114, 100]
theorem itoaSp (n : Int) : Sp (Lib.itoa n) := fun c hc => by
  have := itoa_all c hc
  omega
theorem gW_sp : Sp gW := by unfold gW; intro c hc; simp at hc; rcases hc with rfl | rfl | rfl | rfl | rfl <;> decide
/-- The words of a guard's text. -/
def gZ (L : List Int) : List (List UInt8) := gW :: L.map Lib.itoa
def gTxt (L : List Int) : List UInt8 := Lib.join (gZ L) [32]
theorem gZ_sp (L : List Int) : ∀ z ∈ gZ L, Sp z := by
  intro z hz
  rcases List.mem_cons.1 hz with rfl | hz
  · exact gW_sp
  · obtain ⟨n, -, rfl⟩ := List.mem_map.1 hz
    exact itoaSp n
theorem spl_gTxt (L : List Int) : spl (gTxt L) = gZ L := spl_of (gZ_sp L)
theorem map_itoa_inj : ∀ {L M : List Int}, L.map Lib.itoa = M.map Lib.itoa → L = M
  | [], [], _ => rfl
  | [], _ :: _, h => by cases h
  | _ :: _, [], h => by cases h
  | a :: L, b :: M, h => by
    rw [List.map_cons, List.map_cons] at h
    obtain ⟨h1, h2⟩ := List.cons.inj h
    rw [itoaI h1, map_itoa_inj h2]
theorem gTxt_inj {L M : List Int} (h : gTxt L = gTxt M) : L = M := by
  have : gZ L = gZ M := by rw [← spl_gTxt L, ← spl_gTxt M, h]
  exact map_itoa_inj (List.cons.inj this).2
/-- The numbers of a valid guard, as far as texts go. -/
def smL (L : List Int) : Prop := ∀ x ∈ L, -1099511627776 ≤ x ∧ x ≤ 1099511627776
open Classical in
/-- What a text is read as, if guards of the kind ok are to be read. -/
noncomputable def parG (ok : List Int → Prop) (l : List UInt8) : Option (List Int) := if h : ∃ L, L.length = 22 ∧ ok L ∧ l = gTxt L then some h.choose else none
theorem parG_some {ok : List Int → Prop} {L : List Int} (h0 : L.length = 22) (h : ok L) : parG ok (gTxt L) = some L := by
  have hx : ∃ M, M.length = 22 ∧ ok M ∧ gTxt L = gTxt M := ⟨L, h0, h, rfl⟩
  unfold parG
  rw [dif_pos hx]
  exact congrArg some (gTxt_inj hx.choose_spec.2.2).symm
theorem parG_none {ok : List Int → Prop} {l : List UInt8} (h : ∀ L, L.length = 22 → ok L → l ≠ gTxt L) : parG ok l = none := by
  unfold parG
  rw [dif_neg]
  rintro ⟨L, h0, h1, h2⟩
  exact h L h0 h1 h2
section
variable {ok : List Int → Prop} {l : List UInt8}
/-- The program: not 23 words. -/
theorem parG_many (h : (spl l).length ≠ 23) : parG ok l = none := parG_none fun L h0 _ e => by
  rw [e, spl_gTxt] at h
  simp [gZ, h0] at h
/-- The program: a word that is no number. -/
theorem parG_word (hok : ∀ L, ok L → smL L) {i : Nat} (hi : i < 22) (h : ∀ u, Lib.parseIntB 64 ((spl l).getD (i + 1) []) ≠ .ok u) : parG ok l = none := parG_none fun L h0 h1 e => by
  rw [e, spl_gTxt] at h
  have hil : i < L.length := by omega
  have hz : (gZ L).getD (i + 1) [] = Lib.itoa L[i] := by
    unfold gZ
    rw [List.getD_eq_getElem?_getD, List.getElem?_cons_succ, List.getElem?_map, List.getElem?_eq_getElem hil]
    rfl
  rw [hz] at h
  have hb := hok L h1 L[i] (List.getElem_mem hil)
  exact h _ (parse_itoa (by omega) (by omega))
/-- The program: all words are numbers. -/
theorem parG_read (hok : ∀ L, ok L → smL L) {M : List Int} (hM : M.length = 22) (h : ∀ i, i < 22 → Lib.parseIntB 64 ((spl l).getD (i + 1) []) = .ok (M.getD i 0)) (hn : ¬ (ok M ∧ gTxt M = l)) : parG ok l = none := parG_none fun L h0 h1 e => by
  refine hn ?_
  have : M = L := by
    refine List.ext_getElem (by omega) fun i h2 h3 => ?_
    have q := h i (by omega)
    rw [e, spl_gTxt] at q
    have hz : (gZ L).getD (i + 1) [] = Lib.itoa L[i] := by
      unfold gZ
      rw [List.getD_eq_getElem?_getD, List.getElem?_cons_succ, List.getElem?_map, List.getElem?_eq_getElem h3]
      rfl
    have hb := hok L h1 L[i] (List.getElem_mem h3)
    rw [hz, parse_itoa (by omega) (by omega)] at q
    injection q with q
    rw [List.getD_eq_getElem?_getD, List.getElem?_eq_getElem h2] at q
    exact q.symm
  subst this
  exact ⟨h1, e.symm⟩
end
theorem gTxt_len {L : List Int} (h0 : L.length = 22) (h : smL L) : (gTxt L).length ≤ 400 := by
  have hl : ∀ z ∈ gZ L, z.length ≤ 14 := by
    intro z hz
    rcases List.mem_cons.1 hz with rfl | hz
    · decide
    · obtain ⟨n, hn, rfl⟩ := List.mem_map.1 hz
      have := h n hn
      exact okP_len this.1 this.2
  have key : ∀ {l : List (List UInt8)}, (∀ z ∈ l, z.length ≤ 14) → (Lib.joinTail [32] l).length ≤ l.length * 15 := by
    intro l
    induction l with
    | nil => intro _; simp [Lib.joinTail]
    | cons x l ih =>
      intro hx
      rw [tail_cons]
      have h1 := hx x (List.mem_cons_self ..)
      have h2 := ih fun z hz => hx z (List.mem_cons_of_mem _ hz)
      simp only [List.length_cons, List.length_append]
      omega
  unfold gTxt gZ
  rw [Lib.join_cons, List.length_append]
  have := key (l := L.map Lib.itoa) fun z hz => hl z (List.mem_cons_of_mem _ hz)
  rw [List.length_map, h0] at this
  have : gW.length = 5 := rfl
  omega

/-! The reference's way: pieces one by one. -/
/-- The piece from a to i. -/
def seg (l : List UInt8) (a i : Nat) : List UInt8 := (l.drop a).take (i - a)
def scP : Nat → List UInt8 → Nat → Nat → List (List UInt8) → List (List UInt8)
  | 0, _, _, _, P => P
  | f + 1, l, i, a, P => if i ≤ l.length ∧ P.length < 24 then (if i < l.length ∧ l.getD i 0 ≠ 32 then scP f l (i + 1) a P else scP f l (i + 1) (i + 1) (P ++ [seg l a i])) else P
/-- The pieces in the end, from a state on. -/
def scQ (l : List UInt8) (i a : Nat) (P : List (List UInt8)) : List (List UInt8) := scP (l.length + 1 - i) l i a P
theorem scQ_end {l : List UInt8} {i a : Nat} {P : List (List UInt8)} (h : ¬ (i ≤ l.length ∧ P.length < 24)) : scQ l i a P = P := by
  unfold scQ
  cases hf : l.length + 1 - i with
  | zero => rfl
  | succ f => rw [scP, if_neg h]
theorem scQ_step {l : List UInt8} {i a : Nat} {P : List (List UInt8)} (h : i ≤ l.length ∧ P.length < 24) : scQ l i a P = if i < l.length ∧ l.getD i 0 ≠ 32 then scQ l (i + 1) a P else scQ l (i + 1) (i + 1) (P ++ [seg l a i]) := by
  unfold scQ
  rw [show l.length + 1 - i = (l.length + 1 - (i + 1)) + 1 by omega, scP, if_pos h]
theorem scQ_go {l : List UInt8} {a : Nat} {P : List (List UInt8)} (hP : P.length < 24) : ∀ (n i : Nat), i + n ≤ l.length → (∀ j, i ≤ j → j < i + n → l.getD j 0 ≠ 32) → scQ l i a P = scQ l (i + n) a P
  | 0, i, _, _ => rfl
  | n + 1, i, h, hc => by
    rw [scQ_step ⟨by omega, hP⟩, if_pos ⟨by omega, hc i (Nat.le_refl _) (by omega)⟩]
    rw [scQ_go hP n (i + 1) (by omega) (fun j h1 h2 => hc j (by omega) (by omega))]
    congr 1; omega
theorem getD_drop {l x : List UInt8} {o j : Nat} {c : UInt8} {r : List UInt8} (h : l.drop o = x ++ r) (hj : j < x.length) : l.getD (o + j) c = x.getD j c := by
  have : (l.drop o)[j]? = x[j]? := by rw [h, List.getElem?_append_left hj]
  rw [List.getElem?_drop] at this
  rw [List.getD_eq_getElem?_getD, List.getD_eq_getElem?_getD, this]
theorem getD_at {l x : List UInt8} {o : Nat} {c d : UInt8} {r : List UInt8} (h : l.drop o = x ++ d :: r) : l.getD (o + x.length) c = d := by
  have : (l.drop o)[x.length]? = some d := by rw [h]; simp
  rw [List.getElem?_drop] at this
  rw [List.getD_eq_getElem?_getD, this]; rfl
theorem seg_is {l x r : List UInt8} {o : Nat} (h : l.drop o = x ++ r) : seg l o (o + x.length) = x := by
  unfold seg
  rw [h, show o + x.length - o = x.length by omega]
  simp
theorem len_drop {l x : List UInt8} {o : Nat} (h : l.drop o = x) (ho : o ≤ l.length) : l.length = o + x.length := by
  rw [← h, List.length_drop]; omega
theorem sp_free {l z r : List UInt8} {o : Nat} (hz : Sp z) (h : l.drop o = z ++ r) : ∀ j, o ≤ j → j < o + z.length → l.getD j 0 ≠ 32 := by
  intro j h1 h2 e
  obtain ⟨k, rfl⟩ := Nat.exists_eq_add_of_le h1
  have hk : k < z.length := by omega
  rw [getD_drop h hk, List.getD_eq_getElem?_getD, List.getElem?_eq_getElem hk] at e
  have e2 : z[k] = 32 := e
  have := hz z[k] (List.getElem_mem hk)
  rw [e2] at this
  exact this rfl
theorem scQ_words {l : List UInt8} : ∀ (r : List (List UInt8)) (z : List UInt8) (o : Nat) (P : List (List UInt8)), l.drop o = Lib.join (z :: r) [32] → o ≤ l.length → (∀ x ∈ z :: r, Sp x) → P.length + (r.length + 1) ≤ 23 → scQ l o o P = P ++ z :: r := by
  intro r
  induction r with
  | nil =>
    intro z o P h ho hs hP
    rw [Lib.join_one] at h
    have h' : l.drop o = z ++ [] := by rw [h, List.append_nil]
    have hlen := len_drop h ho
    rw [scQ_go (by omega) z.length o (by omega) (sp_free (hs z (List.mem_cons_self ..)) h')]
    rw [scQ_step ⟨by omega, by omega⟩, if_neg (fun q => by omega), seg_is h', scQ_end (fun q => by omega)]
  | cons s r ih =>
    intro z o P h ho hs hP
    rw [Lib.join_cons, tail_cons, ← Lib.join_cons] at h
    have hlen := len_drop h ho
    simp only [List.length_append, List.length_cons] at hlen hP
    have hd : l.drop (o + z.length + 1) = Lib.join (s :: r) [32] := by
      rw [Nat.add_assoc, ← List.drop_drop, h]; simp
    rw [scQ_go (by omega) z.length o (by omega) (sp_free (hs z (List.mem_cons_self ..)) h)]
    rw [scQ_step ⟨by omega, by omega⟩, getD_at h, if_neg (fun q => q.2 rfl), seg_is h]
    rw [ih s _ (P ++ [z]) hd (by omega) (fun x hx => hs x (List.mem_cons_of_mem _ hx)) (by simp; omega)]
    simp
theorem scQ_gTxt {L : List Int} (h : L.length = 22) : scQ (gTxt L) 0 0 [] = gZ L := by
  exact scQ_words (l := gTxt L) (L.map Lib.itoa) gW 0 [] rfl (Nat.zero_le _) (gZ_sp L) (by simp [h])
/-- The values that go with pieces. -/
def VlsP (P : List (List UInt8)) (X : List Int) : Prop := X.length = P.length ∧ ∀ k, k < P.length → isN (P.getD k []) = true → X.getD k 0 = sv (P.getD k [])
theorem VlsP.nil : VlsP [] [] := ⟨rfl, fun k h => absurd h (by simp)⟩
theorem VlsP.snoc {P : List (List UInt8)} {X : List Int} {z : List UInt8} {v : Int} (h : VlsP P X) (hv : isN z = true → v = sv z) : VlsP (P ++ [z]) (X ++ [v]) := by
  obtain ⟨h1, h2⟩ := h
  refine ⟨by simp [h1], fun k hk hN => ?_⟩
  simp only [List.length_append, List.length_cons, List.length_nil] at hk
  by_cases hkl : k < P.length
  · have e1 : (P ++ [z]).getD k [] = P.getD k [] := by rw [List.getD_eq_getElem?_getD, List.getElem?_append_left hkl, ← List.getD_eq_getElem?_getD]
    have e2 : (X ++ [v]).getD k 0 = X.getD k 0 := by rw [List.getD_eq_getElem?_getD, List.getElem?_append_left (by omega), ← List.getD_eq_getElem?_getD]
    rw [e1] at hN ⊢
    rw [e2]
    exact h2 k hkl hN
  · obtain rfl : k = P.length := by omega
    have e1 : (P ++ [z]).getD P.length [] = z := by simp [List.getD_eq_getElem?_getD]
    have e2 : (X ++ [v]).getD P.length 0 = v := by rw [← h1]; simp [List.getD_eq_getElem?_getD]
    rw [e1] at hN ⊢
    rw [e2]
    exact hv hN
section
variable {ok : List Int → Prop} {l : List UInt8} {X : List Int}
/-- The reference: not 23 pieces. -/
theorem parG_rmany (h : (scQ l 0 0 []).length ≠ 23) : parG ok l = none := parG_none fun L h0 _ e => by
  rw [e, scQ_gTxt h0] at h
  simp [gZ, h0] at h
/-- The reference: 23 pieces, and what is made of them. -/
theorem parG_rread (hok : ∀ L, ok L → smL L) (hX : VlsP (scQ l 0 0 []) X) (hn : ¬ (ok (X.drop 1) ∧ gTxt (X.drop 1) = l)) : parG ok l = none := parG_none fun L h0 h1 e => by
  refine hn ?_
  have hx := hX
  rw [e, scQ_gTxt h0] at hx
  obtain ⟨q1, q2⟩ := hx
  have hlen : (gZ L).length = 23 := by simp [gZ, h0]
  have : X.drop 1 = L := by
    refine List.ext_getElem (by rw [List.length_drop]; omega) fun i h2 h3 => ?_
    have hz : (gZ L).getD (i + 1) [] = Lib.itoa L[i] := by
      unfold gZ
      rw [List.getD_eq_getElem?_getD, List.getElem?_cons_succ, List.getElem?_map, List.getElem?_eq_getElem h3]
      rfl
    have hb := hok L h1 L[i] (List.getElem_mem h3)
    have q := q2 (i + 1) (by omega) (by rw [hz]; exact isN_itoa (okP_len hb.1 hb.2))
    rw [hz, sv_itoa, List.getD_eq_getElem?_getD, List.getElem?_eq_getElem (by omega)] at q
    rw [List.getElem_drop]
    have e3 : 1 + i = i + 1 := by omega
    simp only [e3]
    exact q
  rw [this]
  exact ⟨h1, e.symm⟩
end
end Go.Proofs.YtdelgbdiofkndaaGreatDoor

/-
  The reference's Module.
-/
set_option linter.unusedSimpArgs false
set_option linter.unusedVariables false
namespace Go.Proofs.YtdelgbdiofkndaaGreatDoor
open Sx Go.RowKit
/-- A name, a colon and the number j. -/
def mAt (s : ByteArray) (j : Nat) : Prop := ∃ o : List UInt8, s.data.toList = o ++ 58 :: Lib.itoa (j : Int) ∧ nameB ⟨o.toArray⟩ = true
theorem name_no58 {o : List UInt8} (h : nameB ⟨o.toArray⟩ = true) : ∀ c ∈ o, c ≠ 58 := fun c hc e => by
  unfold nameB at h
  rw [Bool.and_eq_true] at h
  have := List.all_eq_true.1 h.2 c (by simpa using hc)
  subst e
  revert this
  decide
theorem colon_at {s : ByteArray} {o r : List UInt8} (h : s.data.toList = o ++ 58 :: r) (ho : ∀ c ∈ o, c ≠ 58) : colon s = o.length := by
  have h0 : s.data.toList[o.length]? = some 58 := by rw [h]; simp
  unfold colon
  rcases Int.lt_or_le (Lib.indexByte s.data.toList 58) 0 with q | q
  · have h1 : Lib.indexByte s.data.toList 58 = -1 := by have := Lib.indexByte_ge s.data.toList 58; omega
    exact absurd h0 (Lib.indexByte_none h1 _)
  · obtain ⟨i, hi⟩ := Int.eq_ofNat_of_zero_le q
    obtain ⟨a1, a2⟩ := Lib.indexByte_some hi
    rw [hi]
    rcases Nat.lt_trichotomy i o.length with c | c | c
    · exfalso
      rw [h, List.getElem?_append_left c] at a1
      exact ho _ (List.mem_of_getElem? a1) rfl
    · rw [c]
    · exact absurd h0 (a2 _ c)
theorem cut_at58 {s : ByteArray} {o r : List UInt8} (h : s.data.toList = o ++ 58 :: r) (ho : ∀ c ∈ o, c ≠ 58) : cutS s = (⟨o.toArray⟩, ⟨r.toArray⟩, true) := by
  have hc := colon_at h ho
  have hsz : s.size = o.length + 1 + r.length := by rw [Lib.size_eq, h]; simp; omega
  have e1 : s.extract 0 o.length = ⟨o.toArray⟩ := ba_inj (by rw [Lib.extract_eq, h]; simp)
  have e2 : s.extract (o.length + 1) s.size = ⟨r.toArray⟩ := ba_inj (by rw [Lib.extract_eq, h, hsz]; simp)
  unfold cutS
  rw [if_pos (by rw [hc]; omega), hc]
  simp only [Int.toNat_natCast]
  rw [e1, e2]
theorem mAt_mod {s : ByteArray} {j : Nat} (hj : j < 32) {o : List UInt8} (h : s.data.toList = o ++ 58 :: Lib.itoa (j : Int)) (hn : nameB ⟨o.toArray⟩ = true) : modB s = true ∧ (cutS s).1 = ⟨o.toArray⟩ := by
  have hc := cut_at58 h (name_no58 hn)
  have hv : numS ⟨(Lib.itoa (j : Int)).toArray⟩ = some (j : Int) := by
    unfold numS
    rw [← Lib.parseIntB_64]
    have e : (ByteArray.mk (Lib.itoa (j : Int)).toArray).data.toList = Lib.itoa (j : Int) := by simp
    rw [e, parse_itoa (by omega) (by omega)]
  refine ⟨?_, by rw [hc]⟩
  unfold modB
  rw [hc]
  dsimp only
  rw [hv]
  have e2 : (ByteArray.mk (Lib.itoa (j : Int)).toArray).toList = Lib.itoa (j : Int) := by rw [Lib.toList_data]
  simp only [Bool.true_and, Bool.and_eq_true, decide_eq_true_eq, beq_iff_eq]
  exact ⟨⟨⟨by omega, by omega⟩, e2.symm⟩, hn⟩
theorem mod_mAt {s : ByteArray} (h : modB s = true) : ∃ j, j < 32 ∧ mAt s j := by
  unfold modB at h
  rw [Bool.and_eq_true] at h
  obtain ⟨h1, h2⟩ := h
  have hc : 0 ≤ colon s := by
    by_cases hc : 0 ≤ colon s
    · exact hc
    · unfold cutS at h1; rw [if_neg hc] at h1; cases h1
  have e : cutS s = (s.extract 0 (colon s).toNat, s.extract ((colon s).toNat + 1) s.size, true) := by unfold cutS; rw [if_pos hc]
  rw [e] at h2
  obtain ⟨i, hi⟩ := Int.eq_ofNat_of_zero_le hc
  have hat := (Lib.indexByte_some (l := s.data.toList) (c := 58) (o := i) hi).1
  have hil := (List.getElem?_eq_some_iff.1 hat).1
  rw [hi] at h2
  simp only [Int.toNat_natCast] at h2
  have ea : (s.extract 0 i).data.toList = s.data.toList.take i := by rw [Lib.extract_eq]; simp
  have eb : (s.extract (i + 1) s.size).data.toList = s.data.toList.drop (i + 1) := by
    rw [Lib.extract_eq]
    simp only [List.toList_toArray]
    exact List.take_of_length_le (by rw [List.length_drop, ← Lib.size_eq]; exact Nat.le_refl _)
  cases hn : numS (s.extract (i + 1) s.size) with
  | none => rw [hn] at h2; cases h2
  | some v =>
    rw [hn] at h2
    simp only [Bool.and_eq_true, decide_eq_true_eq, beq_iff_eq] at h2
    obtain ⟨⟨⟨v0, v1⟩, hv⟩, hnm⟩ := h2
    obtain ⟨j, rfl⟩ := Int.eq_ofNat_of_zero_le v0
    rw [Lib.toList_data, eb] at hv
    refine ⟨j, by omega, s.data.toList.take i, ?_, ?_⟩
    · rw [hv]
      exact take_at hat
    · have : (⟨(s.data.toList.take i).toArray⟩ : ByteArray) = s.extract 0 i := ba_inj (by rw [ea])
      rw [this]
      exact hnm
/-- What the reference's Module hands back. -/
def rmO (s : ByteArray) : ByteArray := if modB s = true then (cutS s).1 else ⟨#[]⟩
/-- One test of the reference's Module: the text E is a colon and the number. -/
theorem mAt_iff {s E : ByteArray} {j : Nat} (hE : E.data.toList = 58 :: Lib.itoa (j : Int)) : mAt s j ↔ E.size ≤ s.size ∧ s.extract (s.size - E.size) s.size = E ∧ nameB (s.extract 0 (s.size - E.size)) = true := by
  have hEs : E.size = 1 + (Lib.itoa (j : Int)).length := by rw [Lib.size_eq, hE]; simp; omega
  constructor
  · rintro ⟨o, h, hn⟩
    have hsz : s.size = o.length + 1 + (Lib.itoa (j : Int)).length := by rw [Lib.size_eq, h]; simp; omega
    have hk : s.size - E.size = o.length := by omega
    refine ⟨by omega, ba_inj ?_, ?_⟩
    · rw [hk, Lib.extract_eq, h, hsz, hE]
      simp only [List.toList_toArray, List.drop_left]
      exact List.take_of_length_le (by simp; omega)
    · have : s.extract 0 (s.size - E.size) = ⟨o.toArray⟩ := ba_inj (by rw [hk, Lib.extract_eq, h]; simp)
      rw [this]
      exact hn
  · rintro ⟨h1, h2, h3⟩
    refine ⟨s.data.toList.take (s.size - E.size), ?_, ?_⟩
    · have e : (s.extract (s.size - E.size) s.size).data.toList = s.data.toList.drop (s.size - E.size) := by
        rw [Lib.extract_eq]
        simp only [List.toList_toArray]
        exact List.take_of_length_le (by rw [List.length_drop, ← Lib.size_eq]; exact Nat.le_refl _)
      rw [h2] at e
      rw [← hE, e, List.take_append_drop]
    · have : (⟨(s.data.toList.take (s.size - E.size)).toArray⟩ : ByteArray) = s.extract 0 (s.size - E.size) := ba_inj (by rw [Lib.extract_eq]; simp)
      rw [this]
      exact h3
theorem rmO_yes {s E : ByteArray} {j : Nat} (hj : j < 32) (hE : E.data.toList = 58 :: Lib.itoa (j : Int)) (h : mAt s j) : modB s = true ∧ rmO s = s.extract 0 (s.size - E.size) := by
  obtain ⟨o, h1, h2⟩ := h
  have q := mAt_mod hj h1 h2
  have hsz : s.size = o.length + 1 + (Lib.itoa (j : Int)).length := by rw [Lib.size_eq, h1]; simp; omega
  have hEs : E.size = 1 + (Lib.itoa (j : Int)).length := by rw [Lib.size_eq, hE]; simp; omega
  refine ⟨q.1, ?_⟩
  unfold rmO
  rw [if_pos q.1, q.2]
  exact (ba_inj (by rw [show s.size - E.size = o.length by omega, Lib.extract_eq, h1]; simp)).symm
theorem rmO_no {s : ByteArray} (h : ∀ j, j < 32 → ¬ mAt s j) : modB s = false ∧ rmO s = ⟨#[]⟩ := by
  have hm : modB s = false := by
    cases hm : modB s with
    | false => rfl
    | true =>
      obtain ⟨j, hj, q⟩ := mod_mAt hm
      exact absurd q (h j hj)
  exact ⟨hm, by unfold rmO; rw [if_neg (by rw [hm]; decide)]⟩
set_option maxHeartbeats 2000000 in
set_option maxRecDepth 20000 in
theorem RModule_any (s : ByteArray) (w : World) (hs : s.size ≤ 1000000) : Calls Tryz.prog 33 #[.string s] w fun e w' => e = .returned (.tuple #[.string (rmO s), .bool (modB s)]) ∧ Below w.heap.size w w' := by
  go_enter Tryz.func33, Tryz.ntmps33
  go_wp2_with fail
  go_loopw [4, 5, 6] (fun i _ _ wr => ∃ k : Nat, k ≤ 32 ∧ i = .int .i64 k ∧ Hid (∀ j, j < k → ¬ mAt s j) ∧ Below w.heap.size w wr) (fun i _ _ _ => 32 - (intOf i).toNat)
  case atStart => exact ⟨0, by omega, rfl, (fun j hj => absurd hj (by omega)), (by repeat' (first | exact Below.refl _ _ | assumption | apply bDrewN | apply bDrew | apply bAlloc | (refine bSet ?_ ?_ _) | (refine bStep ?_ (by assumption)) | omega | (simp <;> omega)))⟩
  case round =>
    obtain ⟨k, hk, rfl, HQ, kB⟩ := hrel
    have i1 : (0 : Int) ≤ (k : Int) := by omega
    by_cases hlt : k < 32
    · have hlt3 : (k : Int) < 32 := by omega
      have CD := Lib.hid (fun W => Digits_any (k : Int) (by omega) (by omega) W)
      have hl : (Lib.itoa (k : Int)).length ≤ 3 := itoa_len (k := 2) (by omega) (by omega) (by decide)
      obtain ⟨E, hEd⟩ : ∃ E : ByteArray, (⟨#[58]⟩ : ByteArray) ++ ⟨(Lib.itoa (k : Int)).toArray⟩ = E := ⟨_, rfl⟩
      have hE : E.data.toList = 58 :: Lib.itoa (k : Int) := by rw [← hEd]; simp
      have hEs : E.size = 1 + (Lib.itoa (k : Int)).length := by rw [Lib.size_eq, hE]; simp; omega
      have ht1 : (ByteArray.mk (Lib.itoa (k : Int)).toArray).size ≤ 3 := by rw [Lib.size_eq]; simpa using hl
      have HI := Lib.hid (mAt_iff (s := s) (E := E) (j := k) hE)
      have HY := Lib.hid (fun h => rmO_yes (s := s) (E := E) (j := k) hlt hE h)
      have HNX := Lib.hid (show ¬ mAt s k → ∀ j, j < k + 1 → ¬ mAt s j from fun h j hj => by
        by_cases c : j = k
        · subst c; exact h
        · exact HQ.out j (by omega))
      have hE4 : E.size ≤ 4 := by omega
      clear hE hEs hl HQ
      generalize (ByteArray.mk (Lib.itoa (k : Int)).toArray) = t1 at *
      have m1 : ¬ 9223372036854775807 < 1 + t1.size := by omega
      by_cases hsz : E.size ≤ s.size
      · have hd1 : ((s.size : Int) - (E.size : Int)) = ((s.size - E.size : Nat) : Int) := by omega
        have hdk : s.size - E.size ≤ s.size := by omega
        have CN := Lib.hid (fun W => RName_any (s.extract 0 (s.size - E.size)) W)
        generalize hdd : s.size - E.size = d at *
        have d0 : (0 : Int) ≤ (d : Int) := by omega
        have d1 : (d : Int) ≤ (s.size : Int) := by omega
        by_cases heq : s.extract d s.size = E
        · by_cases hnm : nameB (s.extract 0 d) = true
          · obtain ⟨y1, y2⟩ := HY.out (HI.out.2 ⟨hsz, heq, hnm⟩)
            rw [hnm] at CN
            have Y1 := Lib.hid y1
            have Y2 := Lib.hid y2
            clear HI HY HNX hnm hdd y1 y2 ht1 hE4
            go_wp2_with (first | (go_at_call 24; refine (CD.out _).mono ?_; rintro e w3 ⟨rfl, hb3⟩; have k3 := bStep kB hb3) | (go_at_call 32; refine (CN.out _).mono ?_; rintro e w4 ⟨rfl, hb4⟩; have k4 := bStep k3 hb4))
            exact bodyPost_ret (v := .tuple #[.string (s.extract 0 d), .bool true]) (by simp only [results, Tryz.results33]; go_simp) rfl ⟨by rw [Y1.out, Y2.out], k4⟩
          · have HN2 := Lib.hid (HNX.out (fun h => hnm (HI.out.1 h).2.2))
            have hnf : nameB (s.extract 0 d) = false := by simpa using hnm
            rw [hnf] at CN
            clear HI HY HNX hnm hnf hdd ht1 hE4
            go_wp2_with (first | (go_at_call 24; refine (CD.out _).mono ?_; rintro e w3 ⟨rfl, hb3⟩; have k3 := bStep kB hb3) | (go_at_call 32; refine (CN.out _).mono ?_; rintro e w4 ⟨rfl, hb4⟩; have k4 := bStep k3 hb4))
            go_roundw
            case rel => first | exact ⟨k + 1, by omega, by push_cast; rfl, HN2, k4⟩ | ((repeat apply Exists.intro); exact ⟨⟨k + 1, by omega, by push_cast; rfl, HN2, k4⟩, rfl⟩)
            case measure => (simp [intOf]; omega)
        · have HN2 := Lib.hid (HNX.out (fun h => heq (HI.out.1 h).2.1))
          have hb0 := ba_nl heq
          have hb1 : ((s.extract d s.size).toList == E.toList) = false := by simpa using hb0
          clear HI HY HNX hdd ht1 hE4
          go_wp2_with (first | (go_at_call 24; refine (CD.out _).mono ?_; rintro e w3 ⟨rfl, hb3⟩; have k3 := bStep kB hb3) | (go_at_call 32; refine (CN.out _).mono ?_; rintro e w4 ⟨rfl, hb4⟩; have k4 := bStep k3 hb4))
          go_roundw
          case rel => first | exact ⟨k + 1, by omega, by push_cast; rfl, HN2, k3⟩ | ((repeat apply Exists.intro); exact ⟨⟨k + 1, by omega, by push_cast; rfl, HN2, k3⟩, rfl⟩)
          case measure => (simp [intOf]; omega)
      · have HN2 := Lib.hid (HNX.out (fun h => hsz (HI.out.1 h).1))
        have hneg : ¬ (0 : Int) ≤ (s.size : Int) - (E.size : Int) := by omega
        clear HI HY HNX ht1 hsz
        go_wp2_with (first | (go_at_call 24; refine (CD.out _).mono ?_; rintro e w3 ⟨rfl, hb3⟩; have k3 := bStep kB hb3) | fail)
        go_roundw
        case rel => first | exact ⟨k + 1, by omega, by push_cast; rfl, HN2, k3⟩ | ((repeat apply Exists.intro); exact ⟨⟨k + 1, by omega, by push_cast; rfl, HN2, k3⟩, rfl⟩)
        case measure => (simp [intOf]; omega)
    · obtain rfl : k = 32 := by omega
      have HN2 := Lib.hid (rmO_no HQ.out)
      clear HQ hlt hk
      go_wp2_with fail
      exact bodyPost_ret (v := .tuple #[.string ⟨#[]⟩, .bool false]) (by simp only [results, Tryz.results33]; go_simp) rfl ⟨by rw [HN2.out.1, HN2.out.2], kB⟩
end Go.Proofs.YtdelgbdiofkndaaGreatDoor

/-
  Rules of the reference's Name and Module.
-/
set_option linter.unusedSimpArgs false
set_option linter.unusedVariables false
namespace Go.Proofs.YtdelgbdiofkndaaGreatDoor
open Sx Go.RowKit
/-- The rule of the reference's Name. -/
def rnRule : List Sv → St → Tree FLeaf
  | [.one (.s v l)], σ => .leaf (.one (.b (nameB v) l), σ)
  | _, _ => .fail
theorem rnRule_ok {args : List Sv} {σ : St} {y : FLeaf} (hy : (rnRule args σ).At y) : FunOk Tryz.prog 32 args σ y.1 y.2 := by
  unfold rnRule at hy
  split at hy
  · rename_i v l
    obtain rfl : _ = y := hy
    exact FunOk.of_any rfl fun e w => RName_any v w
  · exact hy.elim
/-- The rule of the reference's Module. -/
def rmRule : List Sv → St → Tree FLeaf
  | [.one (.s v l)], σ => .must (decide (v.size ≤ 1000000)) (.leaf (.tup [(false, [.s (rmO v) l]), (false, [.b (modB v) l])], σ))
  | _, _ => .fail
theorem rmRule_ok {args : List Sv} {σ : St} {y : FLeaf} (hy : (rmRule args σ).At y) : FunOk Tryz.prog 33 args σ y.1 y.2 := by
  unfold rmRule at hy
  split at hy
  · rename_i v l
    obtain ⟨h1, h2⟩ := hy
    obtain rfl : _ = y := h2
    exact FunOk.of_any rfl fun e w => RModule_any v w (of_decide_eq_true h1)
  · exact hy.elim
def spR (f : FuncId) : Option (List Sv → St → Tree FLeaf) := match Nat.beq f 32 with
  | true => some rnRule
  | false => match Nat.beq f 33 with
    | true => some rmRule
    | false => none
theorem spR_ok : SpOk Tryz.prog spR := by
  intro f g hf args σ y hy
  unfold spR at hf
  split at hf
  · rename_i h; obtain rfl := beq_iff'.1 h
    obtain rfl := Option.some.inj hf; exact rnRule_ok hy
  · split at hf
    · rename_i h; obtain rfl := beq_iff'.1 h
      obtain rfl := Option.some.inj hf; exact rmRule_ok hy
    · cases hf
end Go.Proofs.YtdelgbdiofkndaaGreatDoor

/-
  The reference's Check.
-/
set_option linter.unusedSimpArgs false
set_option linter.unusedVariables false
namespace Go.Proofs.YtdelgbdiofkndaaGreatDoor
open Sx Go.RowKit
def rT (k t : Int) : Bool := bif decide (k < 1) then true else bif decide (k > 9) then true else !(bif decide (t ≥ 0) then decide (t ≤ 1099511627776) else false)
def rS (k : Int) : Bool := (k == 1 || (k == 2 || (k == 3 || (k == 4 || (!(bif k == 5 then k == 5 else k == 6))))))
def rM (k : Int) (nm : ByteArray) : Bool := (k == 1 || (k == 2 || (k == 3 || (k == 4 || ((!(bif k == 5 then k == 5 else k == 6)) || decide (nm.size ≤ 1000000))))))
def rA (k a : Int) : Bool := !(bif decide (a ≥ (bif k == 1 then 1 else bif k == 2 then 0 else bif k == 3 then 0 else bif k == 4 then 1 else 0)) then decide (a ≤ (bif k == 1 then 4294967296 else bif k == 2 then 1099511627776 else bif k == 3 then 4294967296 else bif k == 4 then 12 else 0)) else false)
def rB (k b : Int) : Bool := !(bif decide (b ≥ 0) then decide (b ≤ (bif k == 1 then 32 else bif k == 2 then 1099511627776 else 0)) else false)
def rNd (k : Int) : Bool := bif k == 1 then true else bif decide (k ≥ 5) then decide (k ≤ 8) else false
def rMv (k : Int) : Bool := bif k == 5 then true else k == 6
def rNm (k : Int) (nm : ByteArray) : Bool := bif k == 1 then nameB nm else bif k == 2 then false else bif k == 3 then false else bif k == 4 then false else bif (bif k == 5 then k == 5 else k == 6) then modB nm else bif (bif k == 7 then k == 7 else k == 8) then nameB nm else false
def rOt (k : Int) (ot : ByteArray) : Bool := bif k == 1 then false else bif k == 2 then false else bif k == 3 then false else bif k == 4 then false else bif (bif k == 5 then k == 5 else k == 6) then nameB ot else false
def rO (k : Int) (ot : ByteArray) : Bool := bif !(rMv k == rOt k ot) then true else bif !(rMv k) then !(ot.toList == (⟨#[]⟩ : ByteArray).toList) else false
def rX (k t a b : Int) (nm ot : ByteArray) : Int := bif rT k t then 2 else bif (bif rA k a then true else bif rB k b then true else bif !(rNd k == rNm k nm) then true else bif !(rNd k) then (bif !(nm.toList == (⟨#[]⟩ : ByteArray).toList) then true else rO k ot) else rO k ot) then 2 else 0
set_option maxRecDepth 100000 in
theorem rchk_eval (k t a b : Int) (nm ot : ByteArray) : res (evFn tbl [] spR 300 12 13 [.agg [.i .i64 k false, .i .i64 t false, .i .i64 a false, .i .i64 b false, .s nm false, .s ot false]] st0) = some ([rT k t || rM k nm], .one (.i .i64 (rX k t a b nm ot))) := by kernel_rfl
theorem RCheck_at (k t a b : Int) (nm ot : ByteArray) (w : World) (hG : Glob0 w) (h1 : nm.size ≤ 1000000) :
    Calls Tryz.prog 13 #[.agg #[.int .i64 k, .int .i64 t, .int .i64 a, .int .i64 b, .string nm, .string ot]] w fun e w' => e = .returned (.int .i64 (rX k t a b nm ot)) ∧ Below w.heap.size w w' := by
  have h := res_any tbl_ok tbl_any spR_ok (fun x hx => by
    obtain rfl := List.mem_singleton.1 hx
    rfl) (rchk_eval k t a b nm ot) (fun x hx => by
    obtain rfl := List.mem_singleton.1 hx
    have e : rM k nm = true := by
      unfold rM
      rw [decide_eq_true h1]
      simp
    rw [e, Bool.or_true]) w hG
  exact h
theorem em_toL : (⟨#[]⟩ : ByteArray).toList = [] := by rw [Lib.toList_data]
theorem rX_core {T : Bool} {t a b l fa fb : Int} {p q c : Bool} (hT : T = !(bif decide (t ≥ 0) then decide (t ≤ 1099511627776) else false)) (hc : c = (bif !p then true else !q)) :
    (bif T then (2 : Int) else bif (bif (!(bif decide (a ≥ l) then decide (a ≤ fa) else false)) then true else bif (!(bif decide (b ≥ 0) then decide (b ≤ fb) else false)) then true else c) then 2 else 0) = bif !(chkB l fa fb t a b p q) then 0 else 2 := by
  subst hT; subst hc
  unfold chkB
  by_cases h1 : t ≥ 0 <;> by_cases h2 : t ≤ 1099511627776 <;> by_cases h3 : a ≥ l <;> by_cases h4 : a ≤ fa <;> by_cases h5 : b ≥ 0 <;> by_cases h6 : b ≤ fb <;>
    (first | rw [decide_eq_true h1] | rw [decide_eq_false h1]) <;> (first | rw [decide_eq_true h2] | rw [decide_eq_false h2]) <;> (first | rw [decide_eq_true h3] | rw [decide_eq_false h3]) <;> (first | rw [decide_eq_true h4] | rw [decide_eq_false h4]) <;> (first | rw [decide_eq_true h5] | rw [decide_eq_false h5]) <;> (first | rw [decide_eq_true h6] | rw [decide_eq_false h6]) <;>
    (first | rw [decide_eq_true (show a < l by omega)] | rw [decide_eq_false (show ¬ a < l by omega)]) <;> (first | rw [decide_eq_true (show a > fa by omega)] | rw [decide_eq_false (show ¬ a > fa by omega)]) <;> (first | rw [decide_eq_true (show b < 0 by omega)] | rw [decide_eq_false (show ¬ b < 0 by omega)]) <;> (first | rw [decide_eq_true (show b > fb by omega)] | rw [decide_eq_false (show ¬ b > fb by omega)]) <;>
    cases p <;> cases q <;> rfl
theorem rX_is (k t a b : Int) (nm ot : ByteArray) (h1 : nm.size ≤ 1000000) (h2 : ot.size ≤ 1000000) : rX k t a b nm ot = (bif okE k t a b nm ot then 0 else 2) := by
  by_cases hk : 1 ≤ k ∧ k ≤ 9
  · have e : okE k t a b nm ot = !chkE k t a b nm ot := by
      unfold okE
      rw [decide_eq_true ⟨hk.1, hk.2, h1, h2⟩, Bool.true_and]
    rw [e]
    have hc : k = 1 ∨ k = 2 ∨ k = 3 ∨ k = 4 ∨ k = 5 ∨ k = 6 ∨ k = 7 ∨ k = 8 ∨ k = 9 := by omega
    have hz := em_toL
    rcases hc with rfl | rfl | rfl | rfl | rfl | rfl | rfl | rfl | rfl
    · show (bif rT 1 t then (2 : Int) else bif (bif (!(bif decide (a ≥ 1) then decide (a ≤ 4294967296) else false)) then true else bif (!(bif decide (b ≥ 0) then decide (b ≤ 32) else false)) then true else _) then 2 else 0) = bif !(chkB 1 4294967296 32 t a b (nameB nm) ((ot.toList == []))) then 0 else 2
      exact rX_core (by rfl) (by
        rw [show rNm 1 nm = nameB nm from rfl, show rNd 1 = true from rfl]
        unfold rO
        rw [show rOt 1 ot = false from rfl, show rMv 1 = false from rfl, hz]
        cases nameB nm <;> cases (ot.toList == []) <;> rfl)
    · show (bif rT 2 t then (2 : Int) else bif (bif (!(bif decide (a ≥ 0) then decide (a ≤ 1099511627776) else false)) then true else bif (!(bif decide (b ≥ 0) then decide (b ≤ 1099511627776) else false)) then true else _) then 2 else 0) = bif !(chkB 0 1099511627776 1099511627776 t a b ((nm.toList == [])) ((ot.toList == []))) then 0 else 2
      exact rX_core (by rfl) (by
        rw [show rNm 2 nm = false from rfl, show rNd 2 = false from rfl]
        unfold rO
        rw [show rOt 2 ot = false from rfl, show rMv 2 = false from rfl, hz]
        cases (nm.toList == []) <;> cases (ot.toList == []) <;> rfl)
    · show (bif rT 3 t then (2 : Int) else bif (bif (!(bif decide (a ≥ 0) then decide (a ≤ 4294967296) else false)) then true else bif (!(bif decide (b ≥ 0) then decide (b ≤ 0) else false)) then true else _) then 2 else 0) = bif !(chkB 0 4294967296 0 t a b ((nm.toList == [])) ((ot.toList == []))) then 0 else 2
      exact rX_core (by rfl) (by
        rw [show rNm 3 nm = false from rfl, show rNd 3 = false from rfl]
        unfold rO
        rw [show rOt 3 ot = false from rfl, show rMv 3 = false from rfl, hz]
        cases (nm.toList == []) <;> cases (ot.toList == []) <;> rfl)
    · show (bif rT 4 t then (2 : Int) else bif (bif (!(bif decide (a ≥ 1) then decide (a ≤ 12) else false)) then true else bif (!(bif decide (b ≥ 0) then decide (b ≤ 0) else false)) then true else _) then 2 else 0) = bif !(chkB 1 12 0 t a b ((nm.toList == [])) ((ot.toList == []))) then 0 else 2
      exact rX_core (by rfl) (by
        rw [show rNm 4 nm = false from rfl, show rNd 4 = false from rfl]
        unfold rO
        rw [show rOt 4 ot = false from rfl, show rMv 4 = false from rfl, hz]
        cases (nm.toList == []) <;> cases (ot.toList == []) <;> rfl)
    · show (bif rT 5 t then (2 : Int) else bif (bif (!(bif decide (a ≥ 0) then decide (a ≤ 0) else false)) then true else bif (!(bif decide (b ≥ 0) then decide (b ≤ 0) else false)) then true else _) then 2 else 0) = bif !(chkB 0 0 0 t a b (modB nm) (nameB ot)) then 0 else 2
      exact rX_core (by rfl) (by
        rw [show rNm 5 nm = modB nm from rfl, show rNd 5 = true from rfl]
        unfold rO
        rw [show rOt 5 ot = nameB ot from rfl, show rMv 5 = true from rfl, hz]
        cases modB nm <;> cases nameB ot <;> rfl)
    · show (bif rT 6 t then (2 : Int) else bif (bif (!(bif decide (a ≥ 0) then decide (a ≤ 0) else false)) then true else bif (!(bif decide (b ≥ 0) then decide (b ≤ 0) else false)) then true else _) then 2 else 0) = bif !(chkB 0 0 0 t a b (modB nm) (nameB ot)) then 0 else 2
      exact rX_core (by rfl) (by
        rw [show rNm 6 nm = modB nm from rfl, show rNd 6 = true from rfl]
        unfold rO
        rw [show rOt 6 ot = nameB ot from rfl, show rMv 6 = true from rfl, hz]
        cases modB nm <;> cases nameB ot <;> rfl)
    · show (bif rT 7 t then (2 : Int) else bif (bif (!(bif decide (a ≥ 0) then decide (a ≤ 0) else false)) then true else bif (!(bif decide (b ≥ 0) then decide (b ≤ 0) else false)) then true else _) then 2 else 0) = bif !(chkB 0 0 0 t a b (nameB nm) ((ot.toList == []))) then 0 else 2
      exact rX_core (by rfl) (by
        rw [show rNm 7 nm = nameB nm from rfl, show rNd 7 = true from rfl]
        unfold rO
        rw [show rOt 7 ot = false from rfl, show rMv 7 = false from rfl, hz]
        cases nameB nm <;> cases (ot.toList == []) <;> rfl)
    · show (bif rT 8 t then (2 : Int) else bif (bif (!(bif decide (a ≥ 0) then decide (a ≤ 0) else false)) then true else bif (!(bif decide (b ≥ 0) then decide (b ≤ 0) else false)) then true else _) then 2 else 0) = bif !(chkB 0 0 0 t a b (nameB nm) ((ot.toList == []))) then 0 else 2
      exact rX_core (by rfl) (by
        rw [show rNm 8 nm = nameB nm from rfl, show rNd 8 = true from rfl]
        unfold rO
        rw [show rOt 8 ot = false from rfl, show rMv 8 = false from rfl, hz]
        cases nameB nm <;> cases (ot.toList == []) <;> rfl)
    · show (bif rT 9 t then (2 : Int) else bif (bif (!(bif decide (a ≥ 0) then decide (a ≤ 0) else false)) then true else bif (!(bif decide (b ≥ 0) then decide (b ≤ 0) else false)) then true else _) then 2 else 0) = bif !(chkB 0 0 0 t a b ((nm.toList == [])) ((ot.toList == []))) then 0 else 2
      exact rX_core (by rfl) (by
        rw [show rNm 9 nm = false from rfl, show rNd 9 = false from rfl]
        unfold rO
        rw [show rOt 9 ot = false from rfl, show rMv 9 = false from rfl, hz]
        cases (nm.toList == []) <;> cases (ot.toList == []) <;> rfl)
  · have e : okE k t a b nm ot = false := by
      unfold okE
      rw [decide_eq_false (by omega)]
      rfl
    have e2 : rT k t = true := by
      unfold rT
      by_cases h : k < 1
      · rw [decide_eq_true h]; rfl
      · rw [decide_eq_false h, decide_eq_true (by omega)]; rfl
    rw [e]
    unfold rX
    rw [e2]
    rfl
/-- The reference's Check at any event with short names. -/
theorem RCheck_any (k t a b : Int) (nm ot : ByteArray) (w : World) (hG : Glob0 w) (h1 : nm.size ≤ 1000000) (h2 : ot.size ≤ 1000000) :
    Calls Tryz.prog 13 #[.agg #[.int .i64 k, .int .i64 t, .int .i64 a, .int .i64 b, .string nm, .string ot]] w fun e w' => e = .returned (.int .i64 (bif okE k t a b nm ot then 0 else 2)) ∧ Below w.heap.size w w' := by
  have h := RCheck_at k t a b nm ot w hG h1
  rw [rX_is k t a b nm ot h1 h2] at h
  exact h
end Go.Proofs.YtdelgbdiofkndaaGreatDoor

/-
  The reference's Text.
-/
set_option linter.unusedSimpArgs false
set_option linter.unusedVariables false
namespace Go.Proofs.YtdelgbdiofkndaaGreatDoor
open Sx Go.RowKit
def rcRule : List Sv → St → Tree FLeaf
  | [.agg [.i .i64 k _, .i .i64 t _, .i .i64 a _, .i .i64 b _, .s nm _, .s ot _]], σ => .must (okE k t a b nm ot) (.leaf (.one (.i .i64 0 true), σ))
  | _, _ => .fail
theorem rcRule_ok {args : List Sv} {σ : St} {y : FLeaf} (hy : (rcRule args σ).At y) : FunOk Tryz.prog 13 args σ y.1 y.2 := by
  unfold rcRule at hy
  split at hy
  · rename_i k l0 t l1 a l2 b l3 nm l4 ot l5
    obtain ⟨h1, h2⟩ := hy
    obtain rfl : _ = y := h2
    obtain ⟨-, k3, k4⟩ := okE_ev h1
    exact FunOk.of_anyG rfl fun e w hG => by
      have h := RCheck_any k t a b nm ot w hG k3 k4
      rw [h1] at h
      exact h
  · exact hy.elim
def rdRule : List Sv → St → Tree FLeaf
  | [.one (.i .i64 n _)], σ => .must (decide (-9223372036854775808 < n ∧ n ≤ 9223372036854775807)) (.leaf (.one (.s ⟨(Lib.itoa n).toArray⟩ false), σ))
  | _, _ => .fail
theorem rdRule_ok {args : List Sv} {σ : St} {y : FLeaf} (hy : (rdRule args σ).At y) : FunOk Tryz.prog 24 args σ y.1 y.2 := by
  unfold rdRule at hy
  split at hy
  · rename_i n l
    obtain ⟨h1, h2⟩ := hy
    obtain rfl : _ = y := h2
    obtain ⟨a, b⟩ := of_decide_eq_true h1
    exact FunOk.of_any rfl fun e w => Digits_any n a b w
  · exact hy.elim
def spU (f : FuncId) : Option (List Sv → St → Tree FLeaf) := match Nat.beq f 13 with
  | true => some rcRule
  | false => match Nat.beq f 24 with
    | true => some rdRule
    | false => none
theorem spU_ok : SpOk Tryz.prog spU := by
  intro f g hf args σ y hy
  unfold spU at hf
  split at hf
  · rename_i h; obtain rfl := beq_iff'.1 h
    obtain rfl := Option.some.inj hf; exact rcRule_ok hy
  · split at hf
    · rename_i h; obtain rfl := beq_iff'.1 h
      obtain rfl := Option.some.inj hf; exact rdRule_ok hy
    · cases hf
def wdK (k : Int) : ByteArray :=
  bif decide (k = ((9 : Nat) : Int)) then ⟨#[115, 99, 114, 97, 112]⟩ else bif decide (k = ((8 : Nat) : Int)) then ⟨#[99, 108, 101, 97, 114]⟩ else bif decide (k = ((7 : Nat) : Int)) then ⟨#[114, 101, 99, 97, 108, 108]⟩ else
  bif decide (k = ((6 : Nat) : Int)) then ⟨#[116, 97, 107, 101]⟩ else bif decide (k = ((5 : Nat) : Int)) then ⟨#[112, 117, 116]⟩ else bif decide (k = ((4 : Nat) : Int)) then ⟨#[102, 97, 117, 108, 116]⟩ else
  bif decide (k = ((3 : Nat) : Int)) then ⟨#[116, 101, 115, 116]⟩ else bif decide (k = ((2 : Nat) : Int)) then ⟨#[117, 115, 101]⟩ else bif decide (k = ((1 : Nat) : Int)) then ⟨#[109, 97, 100, 101]⟩ else ⟨#[]⟩
def spB : ByteArray := ⟨#[32]⟩
def itB (n : Int) : ByteArray := ⟨(Lib.itoa n).toArray⟩
def emB (v : ByteArray) : Bool := v.toList == (⟨#[]⟩ : ByteArray).toList
def tx1 (k t : Int) : ByteArray := wdK k ++ spB ++ itB t
def tx2 (k t a : Int) : ByteArray := bif decide (k ≤ 4) then tx1 k t ++ spB ++ itB a else tx1 k t
def tx3 (k t a b : Int) : ByteArray := bif decide (k ≤ 2) then tx2 k t a ++ spB ++ itB b else tx2 k t a
def tx4 (k t a b : Int) (nm : ByteArray) : ByteArray := bif !(emB nm) then tx3 k t a b ++ spB ++ nm else tx3 k t a b
def tx5 (k t a b : Int) (nm ot : ByteArray) : ByteArray := bif !(emB ot) then tx4 k t a b nm ++ spB ++ ot else tx4 k t a b nm
def szD (s u : ByteArray) : Bool := decide (s.size + u.size ≤ 9223372036854775807)
def fnD (n : Int) : Bool := decide (-9223372036854775808 < n ∧ n ≤ 9223372036854775807)
set_option maxRecDepth 100000 in
theorem rtx_eval (k t a b : Int) (nm ot : ByteArray) : valF (evFn tbl [] spU 300 12 9 [.agg [.i .i64 k false, .i .i64 t false, .i .i64 a false, .i .i64 b false, .s nm false, .s ot false]] st0) =
    some ([okE k t a b nm ot, decide (0 ≤ k ∧ k < ((10 : Nat) : Int)), szD (wdK k) spB, fnD t, szD (wdK k ++ spB) (itB t), !decide (k ≤ 4) || szD (tx1 k t) spB, !decide (k ≤ 4) || fnD a, !decide (k ≤ 4) || szD (tx1 k t ++ spB) (itB a),
      !decide (k ≤ 2) || szD (tx2 k t a) spB, !decide (k ≤ 2) || fnD b, !decide (k ≤ 2) || szD (tx2 k t a ++ spB) (itB b), !!(emB nm) || szD (tx3 k t a b) spB, !!(emB nm) || szD (tx3 k t a b ++ spB) nm, !!(emB ot) || szD (tx4 k t a b nm) spB, !!(emB ot) || szD (tx4 k t a b nm ++ spB) ot],
      .tup [(false, [.s (tx5 k t a b nm ot) false]), (false, [.i .i64 0 true])]) := by kernel_rfl
theorem wdK_word {k : Int} (h : 1 ≤ k ∧ k ≤ 9) : wdK k = ⟨(word k).toArray⟩ := by
  have hc : k = 1 ∨ k = 2 ∨ k = 3 ∨ k = 4 ∨ k = 5 ∨ k = 6 ∨ k = 7 ∨ k = 8 ∨ k = 9 := by omega
  rcases hc with rfl | rfl | rfl | rfl | rfl | rfl | rfl | rfl | rfl <;> rfl
theorem sp_size : spB.size = 1 := rfl
theorem it_size {n : Int} (h0 : 0 ≤ n) (h1 : n ≤ 1099511627776) : (itB n).size ≤ 21 := by
  show (Lib.itoa n).toArray.size ≤ 21
  rw [List.size_toArray]
  exact Lib.itoa_length_le n (by omega) (by omega)
theorem wd_size {k : Int} (h : 1 ≤ k ∧ k ≤ 9) : (wdK k).size ≤ 6 := by
  have hc : k = 1 ∨ k = 2 ∨ k = 3 ∨ k = 4 ∨ k = 5 ∨ k = 6 ∨ k = 7 ∨ k = 8 ∨ k = 9 := by omega
  rcases hc with rfl | rfl | rfl | rfl | rfl | rfl | rfl | rfl | rfl <;> decide
theorem sz_ok {s u : ByteArray} {n m : Nat} (h1 : s.size ≤ n) (h2 : u.size ≤ m) (h : n + m ≤ 9223372036854775807) : szD s u = true := decide_eq_true (by omega)
theorem fn_ok {n : Int} (h0 : 0 ≤ n) (h1 : n ≤ 1099511627776) : fnD n = true := decide_eq_true ⟨by omega, by omega⟩
theorem add_le {s u : ByteArray} {n m : Nat} (h1 : s.size ≤ n) (h2 : u.size ≤ m) : (s ++ u).size ≤ n + m := by rw [ByteArray.size_append]; omega
theorem bif_le {c : Bool} {s u : ByteArray} {n : Nat} (h1 : s.size ≤ n) (h2 : u.size ≤ n) : (bif c then s else u).size ≤ n := by cases c <;> assumption
theorem or_ok {c d : Bool} (h : d = true) : (c || d) = true := by rw [h, Bool.or_true]
theorem toL_app (s u : ByteArray) : (s ++ u).data.toList = s.data.toList ++ u.data.toList := by rw [ByteArray.data_append, Array.toList_append]
theorem toL_it (n : Int) : (itB n).data.toList = Lib.itoa n := rfl
theorem toL_sp : spB.data.toList = [32] := rfl
theorem emB_iff (v : ByteArray) : emB v = decide (v.data.toList = []) := by
  unfold emB
  rw [em_toL, Lib.toList_data]
  cases v.data.toList <;> rfl
theorem tx5_is {k t a b : Int} {nm ot : ByteArray} (hk : 1 ≤ k ∧ k ≤ 9) : tx5 k t a b nm ot = ⟨(textE (evL k t a b nm ot)).toArray⟩ := by
  refine ba_inj ?_
  show _ = textE (evL k t a b nm ot)
  unfold tx5 tx4 tx3 tx2 tx1 textE parts evL
  rw [emB_iff, emB_iff, wdK_word hk, Lib.join_cons]
  dsimp only
  by_cases h1 : k ≤ 2 <;> by_cases h2 : k ≤ 4 <;> by_cases h3 : nm.data.toList = [] <;> by_cases h4 : ot.data.toList = [] <;>
    first | (exfalso; omega) | simp [h1, h2, h3, h4, toL_app, toL_it, toL_sp, Lib.joinTail]
theorem RText_ok (k t a b : Int) (nm ot : ByteArray) (w : World) (hG : Glob0 w) (h : okE k t a b nm ot = true) :
    Calls Tryz.prog 9 #[.agg #[.int .i64 k, .int .i64 t, .int .i64 a, .int .i64 b, .string nm, .string ot]] w fun e w' => e = .returned (.tuple #[.string ⟨(textE (evL k t a b nm ot)).toArray⟩, .int .i64 0]) ∧ Below w.heap.size w w' := by
  obtain ⟨he, hn, ho⟩ := okE_ev h
  have hk := he.k
  have ht := he.t
  have ha := he.a
  have hb := he.b
  clear he
  change 1 ≤ k ∧ k ≤ 9 at hk
  change 0 ≤ t ∧ t ≤ 1099511627776 at ht
  change 0 ≤ a ∧ a ≤ 1099511627776 at ha
  change 0 ≤ b ∧ b ≤ 1099511627776 at hb
  have l0 := wd_size hk
  have ls : spB.size ≤ 1 := Nat.le_refl _
  have lt := it_size ht.1 ht.2
  have la := it_size ha.1 ha.2
  have lb := it_size hb.1 hb.2
  have l1 : (tx1 k t).size ≤ 6 + 1 + 21 := add_le (add_le l0 ls) lt
  have l2 : (tx2 k t a).size ≤ 6 + 1 + 21 + 1 + 21 := bif_le (add_le (add_le l1 ls) la) (Nat.le_trans l1 (by decide))
  have l3 : (tx3 k t a b).size ≤ 6 + 1 + 21 + 1 + 21 + 1 + 21 := bif_le (add_le (add_le l2 ls) lb) (Nat.le_trans l2 (by decide))
  have l4 : (tx4 k t a b nm).size ≤ 6 + 1 + 21 + 1 + 21 + 1 + 21 + 1 + 1000000 := bif_le (add_le (add_le l3 ls) hn) (Nat.le_trans l3 (by decide))
  obtain ⟨y, h1, h2⟩ := valF_at (rtx_eval k t a b nm ot) (fun z hz => by
    simp only [List.mem_cons, List.not_mem_nil, or_false] at hz
    rcases hz with rfl | rfl | rfl | rfl | rfl | rfl | rfl | rfl | rfl | rfl | rfl | rfl | rfl | rfl | rfl
    · exact h
    · exact decide_eq_true ⟨by omega, by omega⟩
    · exact sz_ok l0 ls (by decide)
    · exact fn_ok ht.1 ht.2
    · exact sz_ok (add_le l0 ls) lt (by decide)
    · exact or_ok (sz_ok l1 ls (by decide))
    · exact or_ok (fn_ok ha.1 ha.2)
    · exact or_ok (sz_ok (add_le l1 ls) la (by decide))
    · exact or_ok (sz_ok l2 ls (by decide))
    · exact or_ok (fn_ok hb.1 hb.2)
    · exact or_ok (sz_ok (add_le l2 ls) lb (by decide))
    · exact or_ok (sz_ok l3 ls (by decide))
    · exact or_ok (sz_ok (add_le l3 ls) hn (by decide))
    · exact or_ok (sz_ok l4 ls (by decide))
    · exact or_ok (sz_ok (add_le l4 ls) ho (by decide)))
  have h3 := (evFn_at tbl_ok tbl_any spU_ok h1).any (fun x hx => by
    obtain rfl := List.mem_singleton.1 hx
    rfl) (by rw [h2]; rfl) w hG
  rw [h2, tx5_is hk] at h3
  exact h3
set_option maxRecDepth 20000 in
theorem RText_no (k t a b : Int) (nm ot : ByteArray) (w : World) (hG : Glob0 w) (h1 : nm.size ≤ 1000000) (h2 : ot.size ≤ 1000000) (h : okE k t a b nm ot = false) :
    Calls Tryz.prog 9 #[.agg #[.int .i64 k, .int .i64 t, .int .i64 a, .int .i64 b, .string nm, .string ot]] w fun e w' => e = .returned (.tuple #[.string ⟨#[]⟩, .int .i64 2]) ∧ Below w.heap.size w w' := by
  have C := Lib.hid (fun W hG => RCheck_any k t a b nm ot W hG h1 h2)
  rw [h] at C
  simp only [cond_false] at C
  have HG := Lib.hid hG
  clear hG h h1 h2
  go_enter Tryz.func9, Tryz.ntmps9
  go_wp2_with (go_at_call 13; refine (C.out _ (gstep HG.out bAl'')).mono ?_; rintro e w1 ⟨rfl, hb1⟩)
  exact bodyPost_ret (v := .tuple #[.string ⟨#[]⟩, .int .i64 2]) (by simp only [results, Tryz.results9]; go_simp) rfl ⟨rfl, (by repeat' (first | exact Below.refl _ _ | assumption | apply bDrewN | apply bDrew | apply bAlloc | (refine bSet ?_ ?_ _) | (refine bStep ?_ (by assumption)) | omega | (simp <;> omega)))⟩
end Go.Proofs.YtdelgbdiofkndaaGreatDoor

/-
  The reference's Bytes.
-/
set_option linter.unusedSimpArgs false
set_option linter.unusedVariables false
namespace Go.Proofs.YtdelgbdiofkndaaGreatDoor
open Sx Go.RowKit Mr
theorem bytesE_nat (k t a b : Nat) (nm ot : ByteArray) : k :: (b8 t ++ (b8 a ++ (b8 b ++ (nm.size :: (nm.data.toList.map UInt8.toNat ++ (ot.size :: ot.data.toList.map UInt8.toNat)))))) = bytesE (evL k t a b nm ot) := by
  unfold bytesE evL
  simp
theorem RawU.byt {w W : World} {B bx : Nat} {ob : Obj} {m : List Nat} {v : Value} (h : RawU w B bx ob m v W) : ∃ a c, v = .slice a m.length c ∧ BytV a m W := by
  obtain ⟨L, h1, -⟩ := h
  have h2 := h1.own 0 _ rfl
  refine own_byt (B := B) ?_
  rw [byC_len]
  exact h2
theorem RawU.bel {w W : World} {B bx : Nat} {ob : Obj} {m : List Nat} {v : Value} (h : RawU w B bx ob m v W) : Below w.heap.size w W := by
  obtain ⟨L, h1, -⟩ := h
  exact h1.bel
set_option maxRecDepth 20000 in
theorem RBytes_nat (k t a b : Nat) (nm ot : ByteArray) (w : World) (hG : Glob0 w) (h1 : nm.size ≤ 100) (h2 : ot.size ≤ 100) (h : okE k t a b nm ot = true) :
    Calls Tryz.prog 7 #[.agg #[.int .i64 k, .int .i64 t, .int .i64 a, .int .i64 b, .string nm, .string ot]] w fun e w' => ∃ p c, e = .returned (.tuple #[.slice p (bytesE (evL k t a b nm ot)).length c, .int .i64 0]) ∧ BytV p (bytesE (evL k t a b nm ot)) w' ∧ Below w.heap.size w w' := by
  have C := Lib.hid (fun W hG => RCheck_any k t a b nm ot W hG (by omega) (by omega))
  obtain ⟨he, -, -⟩ := okE_ev h
  have q1 := he.k; have q2 := he.t; have q3 := he.a; have q4 := he.b
  unfold evL at q1 q2 q3 q4
  dsimp only at q1 q2 q3 q4
  have R : Hid (∀ W, Calls Tryz.prog 17 #[.agg #[.int .i64 k, .int .i64 t, .int .i64 a, .int .i64 b, .string nm, .string ot]] W fun e w' => ∃ p c, e = .returned (.slice p (bytesE (evL k t a b nm ot)).length c) ∧ BytV p (bytesE (evL k t a b nm ot)) w' ∧ Below W.heap.size W w') := fun W => by
    refine (rraw_any k t a b nm ot W (by omega) (by omega) (by omega) (by omega) h1 h2).mono fun e w' h => ?_
    obtain ⟨v, rfl, hv⟩ := h
    rw [bytesE_nat] at hv
    obtain ⟨p, c, rfl, hB⟩ := hv.byt
    exact ⟨p, c, rfl, hB, hv.bel⟩
  rw [h] at C
  simp only [cond_true] at C
  have HG := Lib.hid hG
  clear hG h h1 h2 he q1 q2 q3 q4
  generalize bytesE (evL k t a b nm ot) = m at *
  generalize m.length = n at *
  go_enter Tryz.func7, Tryz.ntmps7
  go_wp2_with (first
    | (go_at_call 13; refine (C.out _ (gstep HG.out bAl'')).mono ?_; rintro e w1 ⟨rfl, hb1⟩; obtain ⟨hcw1, hfw1⟩ := bcell hb1; have hzw1 := Below.size hb1; (try simp at hzw1); have hzw10 : w.heap.size < w1.heap.size := (by omega))
    | (go_at_call 17; refine (R.out _).mono ?_; rintro e w2 ⟨p, c, rfl, hB2, hb2⟩))
  exact bodyPost_ret (v := .tuple #[.slice p n c, .int .i64 0]) (by simp only [results, Tryz.results7]; go_simp) rfl ⟨p, c, rfl, by first | exact hB2 | exact hB2.step (by repeat' (first | exact Below.refl _ _ | assumption | apply bDrewN | apply bDrew | apply bAlloc | (refine bSet ?_ ?_ _) | (refine bStep ?_ (by assumption)) | omega | (simp <;> omega))), (by repeat' (first | exact Below.refl _ _ | assumption | apply bDrewN | apply bDrew | apply bAlloc | (refine bSet ?_ ?_ _) | (refine bStep ?_ (by assumption)) | omega | (simp <;> omega)))⟩
theorem RBytes_ok (k t a b : Int) (nm ot : ByteArray) (w : World) (hG : Glob0 w) (h1 : nm.size ≤ 100) (h2 : ot.size ≤ 100) (h : okE k t a b nm ot = true) :
    Calls Tryz.prog 7 #[.agg #[.int .i64 k, .int .i64 t, .int .i64 a, .int .i64 b, .string nm, .string ot]] w fun e w' => ∃ p c, e = .returned (.tuple #[.slice p (bytesE (evL k t a b nm ot)).length c, .int .i64 0]) ∧ BytV p (bytesE (evL k t a b nm ot)) w' ∧ Below w.heap.size w w' := by
  obtain ⟨he, -, -⟩ := okE_ev h
  have q1 := he.k; have q2 := he.t; have q3 := he.a; have q4 := he.b
  unfold evL at q1 q2 q3 q4
  dsimp only at q1 q2 q3 q4
  obtain ⟨k, rfl⟩ := Int.eq_ofNat_of_zero_le (show 0 ≤ k by omega)
  obtain ⟨t, rfl⟩ := Int.eq_ofNat_of_zero_le (show 0 ≤ t by omega)
  obtain ⟨a, rfl⟩ := Int.eq_ofNat_of_zero_le (show 0 ≤ a by omega)
  obtain ⟨b, rfl⟩ := Int.eq_ofNat_of_zero_le (show 0 ≤ b by omega)
  exact RBytes_nat k t a b nm ot w hG h1 h2 h
set_option maxRecDepth 20000 in
theorem RBytes_no (k t a b : Int) (nm ot : ByteArray) (w : World) (hG : Glob0 w) (h1 : nm.size ≤ 1000000) (h2 : ot.size ≤ 1000000) (h : okE k t a b nm ot = false) :
    Calls Tryz.prog 7 #[.agg #[.int .i64 k, .int .i64 t, .int .i64 a, .int .i64 b, .string nm, .string ot]] w fun e w' => e = .returned (.tuple #[.slice none 0 0, .int .i64 2]) ∧ Below w.heap.size w w' := by
  have C := Lib.hid (fun W hG => RCheck_any k t a b nm ot W hG h1 h2)
  rw [h] at C
  simp only [cond_false] at C
  have HG := Lib.hid hG
  clear hG h h1 h2
  go_enter Tryz.func7, Tryz.ntmps7
  go_wp2_with (go_at_call 13; refine (C.out _ (gstep HG.out bAl'')).mono ?_; rintro e w1 ⟨rfl, hb1⟩)
  exact bodyPost_ret (v := .tuple #[.slice none 0 0, .int .i64 2]) (by simp only [results, Tryz.results7]; go_simp) rfl ⟨rfl, (by repeat' (first | exact Below.refl _ _ | assumption | apply bDrewN | apply bDrew | apply bAlloc | (refine bSet ?_ ?_ _) | (refine bStep ?_ (by assumption)) | omega | (simp <;> omega)))⟩
/-- What both Bytes return. -/
def byR (k t a b : Int) (nm ot : ByteArray) : List Nat × Int := if okE k t a b nm ot = true then (bytesE (evL k t a b nm ot), 0) else ([], 2)
theorem PBytes_any (k t a b : Int) (nm ot : ByteArray) (w : World) (hG : Glob0 w) (h1 : nm.size ≤ 100) (h2 : ot.size ≤ 100) :
    Calls Tryz.prog 6 #[.agg #[.int .i64 k, .int .i64 t, .int .i64 a, .int .i64 b, .string nm, .string ot]] w fun e w' => ∃ p c, e = .returned (.tuple #[.slice p (byR k t a b nm ot).1.length c, .int .i64 (byR k t a b nm ot).2]) ∧ BytV p (byR k t a b nm ot).1 w' ∧ Below w.heap.size w w' := by
  by_cases h : okE k t a b nm ot = true
  · have e : byR k t a b nm ot = (bytesE (evL k t a b nm ot), 0) := if_pos h
    rw [e]
    exact Bytes_ok k t a b nm ot w hG h1 h2 h
  · have e : byR k t a b nm ot = ([], 2) := if_neg h
    rw [e]
    refine (Bytes_no k t a b nm ot w hG (by omega) (by omega) (by simpa using h)).mono fun e w' q => ?_
    obtain ⟨rfl, hb⟩ := q
    exact ⟨none, 0, rfl, fun h => absurd rfl h, hb⟩
theorem RBytes_any (k t a b : Int) (nm ot : ByteArray) (w : World) (hG : Glob0 w) (h1 : nm.size ≤ 100) (h2 : ot.size ≤ 100) :
    Calls Tryz.prog 7 #[.agg #[.int .i64 k, .int .i64 t, .int .i64 a, .int .i64 b, .string nm, .string ot]] w fun e w' => ∃ p c, e = .returned (.tuple #[.slice p (byR k t a b nm ot).1.length c, .int .i64 (byR k t a b nm ot).2]) ∧ BytV p (byR k t a b nm ot).1 w' ∧ Below w.heap.size w w' := by
  by_cases h : okE k t a b nm ot = true
  · have e : byR k t a b nm ot = (bytesE (evL k t a b nm ot), 0) := if_pos h
    rw [e]
    exact RBytes_ok k t a b nm ot w hG h1 h2 h
  · have e : byR k t a b nm ot = ([], 2) := if_neg h
    rw [e]
    refine (RBytes_no k t a b nm ot w hG (by omega) (by omega) (by simpa using h)).mono fun e w' q => ?_
    obtain ⟨rfl, hb⟩ := q
    exact ⟨none, 0, rfl, fun h => absurd rfl h, hb⟩
/-- What both Text return. -/
def txR (k t a b : Int) (nm ot : ByteArray) : ByteArray × Int := if okE k t a b nm ot = true then (⟨(textE (evL k t a b nm ot)).toArray⟩, 0) else (⟨#[]⟩, 2)
theorem PText_any (k t a b : Int) (nm ot : ByteArray) (w : World) (hG : Glob0 w) (h1 : nm.size ≤ 1000000) (h2 : ot.size ≤ 1000000) :
    Calls Tryz.prog 8 #[.agg #[.int .i64 k, .int .i64 t, .int .i64 a, .int .i64 b, .string nm, .string ot]] w fun e w' => e = .returned (.tuple #[.string (txR k t a b nm ot).1, .int .i64 (txR k t a b nm ot).2]) ∧ Below w.heap.size w w' := by
  by_cases h : okE k t a b nm ot = true
  · have e : txR k t a b nm ot = (⟨(textE (evL k t a b nm ot)).toArray⟩, 0) := if_pos h
    rw [e]; exact Text_ok k t a b nm ot w hG h
  · have e : txR k t a b nm ot = (⟨#[]⟩, 2) := if_neg h
    rw [e]; exact Text_no k t a b nm ot w hG h1 h2 (by simpa using h)
theorem RText_any (k t a b : Int) (nm ot : ByteArray) (w : World) (hG : Glob0 w) (h1 : nm.size ≤ 1000000) (h2 : ot.size ≤ 1000000) :
    Calls Tryz.prog 9 #[.agg #[.int .i64 k, .int .i64 t, .int .i64 a, .int .i64 b, .string nm, .string ot]] w fun e w' => e = .returned (.tuple #[.string (txR k t a b nm ot).1, .int .i64 (txR k t a b nm ot).2]) ∧ Below w.heap.size w w' := by
  by_cases h : okE k t a b nm ot = true
  · have e : txR k t a b nm ot = (⟨(textE (evL k t a b nm ot)).toArray⟩, 0) := if_pos h
    rw [e]; exact RText_ok k t a b nm ot w hG h
  · have e : txR k t a b nm ot = (⟨#[]⟩, 2) := if_neg h
    rw [e]; exact RText_no k t a b nm ot w hG h1 h2 (by simpa using h)
end Go.Proofs.YtdelgbdiofkndaaGreatDoor
