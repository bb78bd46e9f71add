/-
  Guards as texts: the plain law.
-/
import Derived.Test.YtpdhkgfdmpofiaaGreatDoorQa
import Derived.Lib.Split
import Derived.Lib.SplitLaws
set_option linter.unusedSimpArgs false
set_option linter.unusedVariables false
namespace Go.Proofs.YtpdhkgfdmpofiaaGreatDoor

/-! Texts cut at spaces. -/
theorem take_at {l : List UInt8} {i : Nat} {c : UInt8} (h : l[i]? = some c) : l = l.take i ++ c :: l.drop (i + 1) := by
  obtain ⟨hi, hc⟩ := List.getElem?_eq_some_iff.1 h
  conv => lhs; rw [← List.take_append_drop i l]
  rw [List.drop_eq_getElem_cons hi, hc]
theorem splitK_all : ∀ (k : Nat) (l : List UInt8), l.count 32 = k → Lib.join (Lib.splitK [32] 0 k l) [32] = l ∧ (∀ z ∈ Lib.splitK [32] 0 k l, Sp z) ∧ Lib.splitK [32] 0 k l ≠ []
  | 0, l, h => by
    refine ⟨Lib.join_one _ _, fun z hz => ?_, by simp [Lib.splitK]⟩
    obtain rfl : z = l := by simpa [Lib.splitK] using hz
    intro c hc e
    have : c = 32 := UInt8.toNat_inj.1 e
    subst this
    exact absurd (List.count_pos_iff.2 hc) (by omega)
  | k + 1, l, h => by
    rw [Lib.splitK]
    by_cases hx : Lib.index l [32] = -1
    · exfalso
      rw [Lib.index_one] at hx
      have h2 : 0 < l.count 32 := by omega
      obtain ⟨i, hi⟩ := List.getElem?_of_mem (List.count_pos_iff.1 h2)
      exact Lib.indexByte_none hx i hi
    · obtain ⟨i, hi⟩ := Int.eq_ofNat_of_zero_le (show 0 ≤ Lib.index l [32] by have := Lib.index_ge l [32]; omega)
      rw [if_neg (by rw [beq_iff_eq]; exact hx), hi]
      rw [Lib.index_one] at hi
      obtain ⟨h1, h2⟩ := Lib.indexByte_some hi
      have hl := take_at h1
      have hsp : Sp (l.take i) := by
        intro c hc e
        have : c = 32 := UInt8.toNat_inj.1 e
        subst this
        obtain ⟨j, hj⟩ := List.getElem?_of_mem hc
        have hji : j < i := by
          have := (List.getElem?_eq_some_iff.1 hj).1
          rw [List.length_take] at this; omega
        rw [List.getElem?_take_of_lt hji] at hj
        exact h2 j hji hj
      have h0 : (l.take i).count 32 = 0 := List.count_eq_zero.2 fun hc => hsp 32 hc rfl
      have hk : (l.drop (i + 1)).count 32 = k := by
        rw [hl, List.count_append, List.count_cons_self, h0] at h
        omega
      obtain ⟨e1, e2, e3⟩ := splitK_all k _ hk
      simp only [Int.toNat_natCast, Nat.add_zero, List.length_cons, List.length_nil, Nat.zero_add]
      refine ⟨?_, fun z hz => ?_, by simp⟩
      · generalize hr : Lib.splitK [32] 0 k (l.drop (i + 1)) = r at *
        cases r with
        | nil => exact absurd rfl e3
        | cons y r =>
          rw [Lib.join_cons, tail_cons, ← Lib.join_cons, e1]
          exact hl.symm
      · rcases List.mem_cons.1 hz with rfl | hz
        · exact hsp
        · exact e2 z hz
/-- A text's pieces between spaces. -/
def spl (l : List UInt8) : List (List UInt8) := Lib.splitK [32] 0 (l.count 32) l
theorem spl_join (l : List UInt8) : Lib.join (spl l) [32] = l := (splitK_all _ l rfl).1
theorem spl_sp (l : List UInt8) : ∀ z ∈ spl l, Sp z := (splitK_all _ l rfl).2.1
theorem spl_ne (l : List UInt8) : spl l ≠ [] := (splitK_all _ l rfl).2.2
theorem spl_of {x : List UInt8} {xs : List (List UInt8)} (h : ∀ z ∈ x :: xs, Sp z) : spl (Lib.join (x :: xs) [32]) = x :: xs := by
  have h1 := spl_join (Lib.join (x :: xs) [32])
  have h2 := spl_sp (Lib.join (x :: xs) [32])
  have h3 := spl_ne (Lib.join (x :: xs) [32])
  generalize spl (Lib.join (x :: xs) [32]) = r at *
  cases r with
  | nil => exact absurd rfl h3
  | cons y ys => exact join_inj h2 h h1


/-! Guards. -/
def gW : List UInt8 := [103, 117, 97, 114, 100]
theorem itoaSp (n : Int) : Sp (Lib.itoa n) := fun c hc => by
  have := itoa_all c hc
  omega
theorem gW_sp : Sp gW := by unfold gW; intro c hc; simp at hc; rcases hc with rfl | rfl | rfl | rfl | rfl <;> decide
/-- The words of a guard's text. -/
def gZ (L : List Int) : List (List UInt8) := gW :: L.map Lib.itoa
def gTxt (L : List Int) : List UInt8 := Lib.join (gZ L) [32]
theorem gZ_sp (L : List Int) : ∀ z ∈ gZ L, Sp z := by
  intro z hz
  rcases List.mem_cons.1 hz with rfl | hz
  · exact gW_sp
  · obtain ⟨n, -, rfl⟩ := List.mem_map.1 hz
    exact itoaSp n
theorem spl_gTxt (L : List Int) : spl (gTxt L) = gZ L := spl_of (gZ_sp L)
theorem map_itoa_inj : ∀ {L M : List Int}, L.map Lib.itoa = M.map Lib.itoa → L = M
  | [], [], _ => rfl
  | [], _ :: _, h => by cases h
  | _ :: _, [], h => by cases h
  | a :: L, b :: M, h => by
    rw [List.map_cons, List.map_cons] at h
    obtain ⟨h1, h2⟩ := List.cons.inj h
    rw [itoaI h1, map_itoa_inj h2]
theorem gTxt_inj {L M : List Int} (h : gTxt L = gTxt M) : L = M := by
  have : gZ L = gZ M := by rw [← spl_gTxt L, ← spl_gTxt M, h]
  exact map_itoa_inj (List.cons.inj this).2
/-- The numbers of a valid guard, as far as texts go. -/
def smL (L : List Int) : Prop := ∀ x ∈ L, -1099511627776 ≤ x ∧ x ≤ 1099511627776
open Classical in
/-- What a text is read as, if guards of the kind ok are to be read. -/
noncomputable def parG (ok : List Int → Prop) (l : List UInt8) : Option (List Int) := if h : ∃ L, L.length = 22 ∧ ok L ∧ l = gTxt L then some h.choose else none
theorem parG_some {ok : List Int → Prop} {L : List Int} (h0 : L.length = 22) (h : ok L) : parG ok (gTxt L) = some L := by
  have hx : ∃ M, M.length = 22 ∧ ok M ∧ gTxt L = gTxt M := ⟨L, h0, h, rfl⟩
  unfold parG
  rw [dif_pos hx]
  exact congrArg some (gTxt_inj hx.choose_spec.2.2).symm
theorem parG_none {ok : List Int → Prop} {l : List UInt8} (h : ∀ L, L.length = 22 → ok L → l ≠ gTxt L) : parG ok l = none := by
  unfold parG
  rw [dif_neg]
  rintro ⟨L, h0, h1, h2⟩
  exact h L h0 h1 h2
section
variable {ok : List Int → Prop} {l : List UInt8}
/-- The program: not 23 words. -/
theorem parG_many (h : (spl l).length ≠ 23) : parG ok l = none := parG_none fun L h0 _ e => by
  rw [e, spl_gTxt] at h
  simp [gZ, h0] at h
/-- The program: a word that is no number. -/
theorem parG_word (hok : ∀ L, ok L → smL L) {i : Nat} (hi : i < 22) (h : ∀ u, Lib.parseIntB 64 ((spl l).getD (i + 1) []) ≠ .ok u) : parG ok l = none := parG_none fun L h0 h1 e => by
  rw [e, spl_gTxt] at h
  have hil : i < L.length := by omega
  have hz : (gZ L).getD (i + 1) [] = Lib.itoa L[i] := by
    unfold gZ
    rw [List.getD_eq_getElem?_getD, List.getElem?_cons_succ, List.getElem?_map, List.getElem?_eq_getElem hil]
    rfl
  rw [hz] at h
  have hb := hok L h1 L[i] (List.getElem_mem hil)
  exact h _ (parse_itoa (by omega) (by omega))
/-- The program: all words are numbers. -/
theorem parG_read (hok : ∀ L, ok L → smL L) {M : List Int} (hM : M.length = 22) (h : ∀ i, i < 22 → Lib.parseIntB 64 ((spl l).getD (i + 1) []) = .ok (M.getD i 0)) (hn : ¬ (ok M ∧ gTxt M = l)) : parG ok l = none := parG_none fun L h0 h1 e => by
  refine hn ?_
  have : M = L := by
    refine List.ext_getElem (by omega) fun i h2 h3 => ?_
    have q := h i (by omega)
    rw [e, spl_gTxt] at q
    have hz : (gZ L).getD (i + 1) [] = Lib.itoa L[i] := by
      unfold gZ
      rw [List.getD_eq_getElem?_getD, List.getElem?_cons_succ, List.getElem?_map, List.getElem?_eq_getElem h3]
      rfl
    have hb := hok L h1 L[i] (List.getElem_mem h3)
    rw [hz, parse_itoa (by omega) (by omega)] at q
    injection q with q
    rw [List.getD_eq_getElem?_getD, List.getElem?_eq_getElem h2] at q
    exact q.symm
  subst this
  exact ⟨h1, e.symm⟩
end
theorem gTxt_len {L : List Int} (h0 : L.length = 22) (h : smL L) : (gTxt L).length ≤ 400 := by
  have hl : ∀ z ∈ gZ L, z.length ≤ 14 := by
    intro z hz
    rcases List.mem_cons.1 hz with rfl | hz
    · decide
    · obtain ⟨n, hn, rfl⟩ := List.mem_map.1 hz
      have := h n hn
      exact okP_len this.1 this.2
  have key : ∀ {l : List (List UInt8)}, (∀ z ∈ l, z.length ≤ 14) → (Lib.joinTail [32] l).length ≤ l.length * 15 := by
    intro l
    induction l with
    | nil => intro _; simp [Lib.joinTail]
    | cons x l ih =>
      intro hx
      rw [tail_cons]
      have h1 := hx x (List.mem_cons_self ..)
      have h2 := ih fun z hz => hx z (List.mem_cons_of_mem _ hz)
      simp only [List.length_cons, List.length_append]
      omega
  unfold gTxt gZ
  rw [Lib.join_cons, List.length_append]
  have := key (l := L.map Lib.itoa) fun z hz => hl z (List.mem_cons_of_mem _ hz)
  rw [List.length_map, h0] at this
  have : gW.length = 5 := rfl
  omega

/-! The reference's way: pieces one by one. -/
/-- The piece from a to i. -/
def seg (l : List UInt8) (a i : Nat) : List UInt8 := (l.drop a).take (i - a)
def scP : Nat → List UInt8 → Nat → Nat → List (List UInt8) → List (List UInt8)
  | 0, _, _, _, P => P
  | f + 1, l, i, a, P => if i ≤ l.length ∧ P.length < 24 then (if i < l.length ∧ l.getD i 0 ≠ 32 then scP f l (i + 1) a P else scP f l (i + 1) (i + 1) (P ++ [seg l a i])) else P
/-- The pieces in the end, from a state on. -/
def scQ (l : List UInt8) (i a : Nat) (P : List (List UInt8)) : List (List UInt8) := scP (l.length + 1 - i) l i a P
theorem scQ_end {l : List UInt8} {i a : Nat} {P : List (List UInt8)} (h : ¬ (i ≤ l.length ∧ P.length < 24)) : scQ l i a P = P := by
  unfold scQ
  cases hf : l.length + 1 - i with
  | zero => rfl
  | succ f => rw [scP, if_neg h]
theorem scQ_step {l : List UInt8} {i a : Nat} {P : List (List UInt8)} (h : i ≤ l.length ∧ P.length < 24) : scQ l i a P = if i < l.length ∧ l.getD i 0 ≠ 32 then scQ l (i + 1) a P else scQ l (i + 1) (i + 1) (P ++ [seg l a i]) := by
  unfold scQ
  rw [show l.length + 1 - i = (l.length + 1 - (i + 1)) + 1 by omega, scP, if_pos h]
theorem scQ_go {l : List UInt8} {a : Nat} {P : List (List UInt8)} (hP : P.length < 24) : ∀ (n i : Nat), i + n ≤ l.length → (∀ j, i ≤ j → j < i + n → l.getD j 0 ≠ 32) → scQ l i a P = scQ l (i + n) a P
  | 0, i, _, _ => rfl
  | n + 1, i, h, hc => by
    rw [scQ_step ⟨by omega, hP⟩, if_pos ⟨by omega, hc i (Nat.le_refl _) (by omega)⟩]
    rw [scQ_go hP n (i + 1) (by omega) (fun j h1 h2 => hc j (by omega) (by omega))]
    congr 1; omega
theorem getD_drop {l x : List UInt8} {o j : Nat} {c : UInt8} {r : List UInt8} (h : l.drop o = x ++ r) (hj : j < x.length) : l.getD (o + j) c = x.getD j c := by
  have : (l.drop o)[j]? = x[j]? := by rw [h, List.getElem?_append_left hj]
  rw [List.getElem?_drop] at this
  rw [List.getD_eq_getElem?_getD, List.getD_eq_getElem?_getD, this]
theorem getD_at {l x : List UInt8} {o : Nat} {c d : UInt8} {r : List UInt8} (h : l.drop o = x ++ d :: r) : l.getD (o + x.length) c = d := by
  have : (l.drop o)[x.length]? = some d := by rw [h]; simp
  rw [List.getElem?_drop] at this
  rw [List.getD_eq_getElem?_getD, this]; rfl
theorem seg_is {l x r : List UInt8} {o : Nat} (h : l.drop o = x ++ r) : seg l o (o + x.length) = x := by
  unfold seg
  rw [h, show o + x.length - o = x.length by omega]
  simp
theorem len_drop {l x : List UInt8} {o : Nat} (h : l.drop o = x) (ho : o ≤ l.length) : l.length = o + x.length := by
  rw [← h, List.length_drop]; omega
theorem sp_free {l z r : List UInt8} {o : Nat} (hz : Sp z) (h : l.drop o = z ++ r) : ∀ j, o ≤ j → j < o + z.length → l.getD j 0 ≠ 32 := by
  intro j h1 h2 e
  obtain ⟨k, rfl⟩ := Nat.exists_eq_add_of_le h1
  have hk : k < z.length := by omega
  rw [getD_drop h hk, List.getD_eq_getElem?_getD, List.getElem?_eq_getElem hk] at e
  have e2 : z[k] = 32 := e
  have := hz z[k] (List.getElem_mem hk)
  rw [e2] at this
  exact this rfl
theorem scQ_words {l : List UInt8} : ∀ (r : List (List UInt8)) (z : List UInt8) (o : Nat) (P : List (List UInt8)), l.drop o = Lib.join (z :: r) [32] → o ≤ l.length → (∀ x ∈ z :: r, Sp x) → P.length + (r.length + 1) ≤ 23 → scQ l o o P = P ++ z :: r := by
  intro r
  induction r with
  | nil =>
    intro z o P h ho hs hP
    rw [Lib.join_one] at h
    have h' : l.drop o = z ++ [] := by rw [h, List.append_nil]
    have hlen := len_drop h ho
    rw [scQ_go (by omega) z.length o (by omega) (sp_free (hs z (List.mem_cons_self ..)) h')]
    rw [scQ_step ⟨by omega, by omega⟩, if_neg (fun q => by omega), seg_is h', scQ_end (fun q => by omega)]
  | cons s r ih =>
    intro z o P h ho hs hP
    rw [Lib.join_cons, tail_cons, ← Lib.join_cons] at h
    have hlen := len_drop h ho
    simp only [List.length_append, List.length_cons] at hlen hP
    have hd : l.drop (o + z.length + 1) = Lib.join (s :: r) [32] := by
      rw [Nat.add_assoc, ← List.drop_drop, h]; simp
    rw [scQ_go (by omega) z.length o (by omega) (sp_free (hs z (List.mem_cons_self ..)) h)]
    rw [scQ_step ⟨by omega, by omega⟩, getD_at h, if_neg (fun q => q.2 rfl), seg_is h]
    rw [ih s _ (P ++ [z]) hd (by omega) (fun x hx => hs x (List.mem_cons_of_mem _ hx)) (by simp; omega)]
    simp
theorem scQ_gTxt {L : List Int} (h : L.length = 22) : scQ (gTxt L) 0 0 [] = gZ L := by
  exact scQ_words (l := gTxt L) (L.map Lib.itoa) gW 0 [] rfl (Nat.zero_le _) (gZ_sp L) (by simp [h])
/-- The values that go with pieces. -/
def VlsP (P : List (List UInt8)) (X : List Int) : Prop := X.length = P.length ∧ ∀ k, k < P.length → isN (P.getD k []) = true → X.getD k 0 = sv (P.getD k [])
theorem VlsP.nil : VlsP [] [] := ⟨rfl, fun k h => absurd h (by simp)⟩
theorem VlsP.snoc {P : List (List UInt8)} {X : List Int} {z : List UInt8} {v : Int} (h : VlsP P X) (hv : isN z = true → v = sv z) : VlsP (P ++ [z]) (X ++ [v]) := by
  obtain ⟨h1, h2⟩ := h
  refine ⟨by simp [h1], fun k hk hN => ?_⟩
  simp only [List.length_append, List.length_cons, List.length_nil] at hk
  by_cases hkl : k < P.length
  · have e1 : (P ++ [z]).getD k [] = P.getD k [] := by rw [List.getD_eq_getElem?_getD, List.getElem?_append_left hkl, ← List.getD_eq_getElem?_getD]
    have e2 : (X ++ [v]).getD k 0 = X.getD k 0 := by rw [List.getD_eq_getElem?_getD, List.getElem?_append_left (by omega), ← List.getD_eq_getElem?_getD]
    rw [e1] at hN ⊢
    rw [e2]
    exact h2 k hkl hN
  · obtain rfl : k = P.length := by omega
    have e1 : (P ++ [z]).getD P.length [] = z := by simp [List.getD_eq_getElem?_getD]
    have e2 : (X ++ [v]).getD P.length 0 = v := by rw [← h1]; simp [List.getD_eq_getElem?_getD]
    rw [e1] at hN ⊢
    rw [e2]
    exact hv hN
section
variable {ok : List Int → Prop} {l : List UInt8} {X : List Int}
/-- The reference: not 23 pieces. -/
theorem parG_rmany (h : (scQ l 0 0 []).length ≠ 23) : parG ok l = none := parG_none fun L h0 _ e => by
  rw [e, scQ_gTxt h0] at h
  simp [gZ, h0] at h
/-- The reference: 23 pieces, and what is made of them. -/
theorem parG_rread (hok : ∀ L, ok L → smL L) (hX : VlsP (scQ l 0 0 []) X) (hn : ¬ (ok (X.drop 1) ∧ gTxt (X.drop 1) = l)) : parG ok l = none := parG_none fun L h0 h1 e => by
  refine hn ?_
  have hx := hX
  rw [e, scQ_gTxt h0] at hx
  obtain ⟨q1, q2⟩ := hx
  have hlen : (gZ L).length = 23 := by simp [gZ, h0]
  have : X.drop 1 = L := by
    refine List.ext_getElem (by rw [List.length_drop]; omega) fun i h2 h3 => ?_
    have hz : (gZ L).getD (i + 1) [] = Lib.itoa L[i] := by
      unfold gZ
      rw [List.getD_eq_getElem?_getD, List.getElem?_cons_succ, List.getElem?_map, List.getElem?_eq_getElem h3]
      rfl
    have hb := hok L h1 L[i] (List.getElem_mem h3)
    have q := q2 (i + 1) (by omega) (by rw [hz]; exact isN_itoa (okP_len hb.1 hb.2))
    rw [hz, sv_itoa, List.getD_eq_getElem?_getD, List.getElem?_eq_getElem (by omega)] at q
    rw [List.getElem_drop]
    have e3 : 1 + i = i + 1 := by omega
    simp only [e3]
    exact q
  rw [this]
  exact ⟨h1, e.symm⟩
end
end Go.Proofs.YtpdhkgfdmpofiaaGreatDoor
