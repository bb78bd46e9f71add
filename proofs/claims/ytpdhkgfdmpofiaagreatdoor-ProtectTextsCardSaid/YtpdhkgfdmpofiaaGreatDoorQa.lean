/-
  Decimal numbers and spans as texts: the plain law.
-/
import Derived.Test.YtpdhkgfdmpofiaaGreatDoorHz
import Derived.Lib.ParseIntB
import Derived.Lib.IndexLaws
import Derived.Lib.IndexMore
import Derived.Lib.ItoaLen
set_option linter.unusedSimpArgs false
set_option linter.unusedVariables false
namespace Go.Proofs.YtpdhkgfdmpofiaaGreatDoor

theorem dec_lt {u k : Nat} (h : (Lib.decDigits u).length ≤ k) : u < 10 ^ k := by
  rw [Lib.decDigits_length] at h
  exact Nat.lt_of_lt_of_le (Lib.lt_pow_nDigits u) (Nat.pow_le_pow_right (by decide) h)
theorem dec_le : ∀ {k u : Nat}, 1 ≤ k → u < 10 ^ k → (Lib.decDigits u).length ≤ k
  | 0, _, h, _ => absurd h (by decide)
  | k + 1, u, _, h => by
    by_cases hu : u < 10
    · rw [Lib.decDigits_one hu]; simp
    · rw [dec_step hu]
      have hk : 1 ≤ k := by
        rcases Nat.eq_zero_or_pos k with rfl | hk
        · simp at h; omega
        · exact hk
      have := dec_le hk (u := u / 10) (by rw [Nat.pow_succ] at h; omega)
      simp only [List.length_append, List.length_cons, List.length_nil]
      omega
theorem itoa_cases (n : Int) : (∃ u : Nat, n = u ∧ Lib.itoa n = Lib.decDigits u) ∨ (∃ u : Nat, 1 ≤ u ∧ n = -(u : Int) ∧ Lib.itoa n = 45 :: Lib.decDigits u) := by
  rcases Int.lt_or_le n 0 with h | h
  · obtain ⟨u, hu⟩ := Int.eq_ofNat_of_zero_le (show 0 ≤ -n by omega)
    have e : n = -(u : Int) := by omega
    exact .inr ⟨u, by omega, e, by rw [e]; exact Lib.itoa_neg u (by omega)⟩
  · obtain ⟨u, hu⟩ := Int.eq_ofNat_of_zero_le h
    exact .inl ⟨u, hu, by rw [hu]; exact Lib.itoa_nonneg u⟩
theorem dec_head {u : Nat} {c : UInt8} {r : List UInt8} (h : Lib.decDigits u = c :: r) : 48 ≤ c.toNat ∧ c.toNat ≤ 57 := dec_plain u c (by rw [h]; exact List.mem_cons_self ..)
theorem itoa_all {n : Int} : ∀ c ∈ Lib.itoa n, c.toNat = 45 ∨ (48 ≤ c.toNat ∧ c.toNat ≤ 57) := by
  intro c hc
  rcases itoa_cases n with ⟨u, -, e⟩ | ⟨u, -, -, e⟩
  · rw [e] at hc; exact .inr (dec_plain u c hc)
  · rw [e] at hc
    rcases List.mem_cons.1 hc with rfl | hc
    · exact .inl rfl
    · exact .inr (dec_plain u c hc)
theorem itoa_ne' (n : Int) : Lib.itoa n ≠ [] := by
  rcases itoa_cases n with ⟨u, -, e⟩ | ⟨u, -, -, e⟩
  · rw [e]; exact dec_ne u
  · rw [e]; simp
theorem itoaI {m n : Int} (h : Lib.itoa m = Lib.itoa n) : m = n := by
  rcases itoa_cases m with ⟨u, e1, e2⟩ | ⟨u, -, e1, e2⟩ <;> rcases itoa_cases n with ⟨v, f1, f2⟩ | ⟨v, -, f1, f2⟩ <;> rw [e2, f2] at h
  · have := dec_inj h; omega
  · have := dec_head h; exact absurd this.1 (by decide)
  · have := dec_head h.symm; exact absurd this.1 (by decide)
  · have := dec_inj (List.cons.inj h).2; omega
theorem itoa_len {n : Int} {k : Nat} (h1 : -(10 ^ k : Nat) < n) (h2 : n < (10 ^ k : Nat)) (hk : 1 ≤ k) : (Lib.itoa n).length ≤ k + 1 := by
  rcases itoa_cases n with ⟨u, e1, e2⟩ | ⟨u, -, e1, e2⟩
  · rw [e2]; have := dec_le hk (u := u) (by omega); omega
  · rw [e2]; have := dec_le hk (u := u) (by omega); simp only [List.length_cons]; omega
theorem itoa_small {n : Int} {k : Nat} (h : (Lib.itoa n).length ≤ k) : -(10 ^ k : Nat) < n ∧ n < (10 ^ k : Nat) := by
  rcases itoa_cases n with ⟨u, e1, e2⟩ | ⟨u, -, e1, e2⟩
  · rw [e2] at h; have := dec_lt h; omega
  · rw [e2] at h
    have : u < 10 ^ k := dec_lt (by simp only [List.length_cons] at h; omega)
    omega

/-! strconv.ParseInt at a decimal number. -/
theorem pM_dec {M u : Nat} (hM : M ≤ 18446744073709551615) (hu : u ≤ M) (r : List UInt8) : Lib.parseUintM M 0 (Lib.decDigits u ++ r) = Lib.parseUintM M u r := by
  induction u using Nat.strongRecOn generalizing r with
  | ind u ih =>
    have h48 : ∀ d, d < 10 → (UInt8.ofNat (48 + d)).toNat = 48 + d := fun d hd => dig_nat hd
    by_cases h : u < 10
    · rw [Lib.decDigits_one h, List.singleton_append, Lib.parseUintM, h48 u h]
      rw [if_pos ⟨by omega, by omega⟩, if_neg (by decide), if_neg (by omega)]
      congr 1; omega
    · rw [dec_step h, List.append_assoc, ih (u / 10) (by omega) (by omega), List.singleton_append, Lib.parseUintM, h48 (u % 10) (by omega)]
      rw [if_pos ⟨by omega, by omega⟩, if_neg (by omega), if_neg (by omega)]
      congr 1; omega
theorem pU_dec {u : Nat} (hu : u ≤ 18446744073709551615) : Lib.parseUintB 64 (Lib.decDigits u) = .ok u := by
  unfold Lib.parseUintB
  rw [if_neg (dec_ne u)]
  have := pM_dec (M := 18446744073709551615) (by decide) hu []
  rw [List.append_nil] at this
  exact this
theorem parse_itoa {n : Int} (h1 : -9223372036854775808 ≤ n) (h2 : n ≤ 9223372036854775807) : Lib.parseIntB 64 (Lib.itoa n) = .ok n := by
  rcases itoa_cases n with ⟨u, e1, e2⟩ | ⟨u, hu, e1, e2⟩
  · rw [e2]
    cases hd : Lib.decDigits u with
    | nil => exact absurd hd (dec_ne u)
    | cons c r =>
      have hc := dec_head hd
      unfold Lib.parseIntB
      have k1 : ¬ (c.toNat = 43 ∨ c.toNat = 45) := by omega
      have k2 : ¬ c.toNat = 45 := by omega
      simp only [if_neg k1]
      rw [← hd, pU_dec (by omega)]
      simp only [k2, not_false_eq_true, true_and, false_and, if_false]
      rw [if_neg (by show ¬ 9223372036854775808 ≤ u; omega)]
      rw [e1]
  · rw [e2]
    unfold Lib.parseIntB
    have k2 : (45 : UInt8).toNat = 45 := rfl
    simp only [k2, or_true, if_true]
    rw [pU_dec (by omega)]
    simp only [not_true_eq_false, false_and, true_and, if_true, if_false]
    rw [if_neg (by show ¬ 9223372036854775808 < u; omega)]
    rw [e1]
theorem parse_bd {l : List UInt8} {v : Int} (h : Lib.parseIntB 64 l = .ok v) : -9223372036854775808 ≤ v ∧ v ≤ 9223372036854775807 := by
  unfold Lib.parseIntB at h
  cases l with
  | nil => cases h
  | cons c r =>
    dsimp only at h
    split at h
    · cases h
    · cases h
    · rename_i u hu
      split at h
      · cases h
      · rename_i h1
        split at h
        · cases h
        · rename_i h2
          injection h with h
          by_cases hn : c.toNat = 45
          · rw [if_pos hn] at h
            have : ¬ 9223372036854775808 < u := fun q => h2 ⟨hn, q⟩
            omega
          · rw [if_neg hn] at h
            have : ¬ 9223372036854775808 ≤ u := fun q => h1 ⟨hn, q⟩
            omega
/-- The number that a text is, if it is one. -/
def rd (l : List UInt8) : Option Int := match Lib.parseIntB 64 l with
  | .ok v => if Lib.itoa v = l then some v else none
  | _ => none
theorem rd_iff {l : List UInt8} {v : Int} : rd l = some v ↔ (Lib.itoa v = l ∧ -9223372036854775808 ≤ v ∧ v ≤ 9223372036854775807) := by
  constructor
  · intro h
    unfold rd at h
    split at h
    · rename_i u hu
      split at h
      · rename_i he
        obtain rfl := Option.some.inj h
        exact ⟨he, parse_bd hu⟩
      · cases h
    · cases h
  · rintro ⟨rfl, h1, h2⟩
    unfold rd
    rw [parse_itoa h1 h2]
    simp

/-! The reference's Number. -/
def nvF (l : List UInt8) : Nat := l.foldl (fun s c => if 48 ≤ c.toNat ∧ c.toNat ≤ 57 then 10 * s + (c.toNat - 48) else s) 0
def sv (l : List UInt8) : Int := if l.head? = some 45 then -(nvF l : Int) else nvF l
theorem nvF_snoc (l : List UInt8) (c : UInt8) : nvF (l ++ [c]) = if 48 ≤ c.toNat ∧ c.toNat ≤ 57 then 10 * nvF l + (c.toNat - 48) else nvF l := by simp [nvF]
theorem fold_lt : ∀ (l : List UInt8) (s : Nat), l.foldl (fun s c => if 48 ≤ c.toNat ∧ c.toNat ≤ 57 then 10 * s + (c.toNat - 48) else s) s < (s + 1) * 10 ^ l.length
  | [], s => by simp
  | c :: l, s => by
    rw [List.foldl_cons]
    refine Nat.lt_of_lt_of_le (fold_lt l _) ?_
    rw [List.length_cons, Nat.pow_succ, Nat.mul_comm (10 ^ l.length) 10, ← Nat.mul_assoc]
    refine Nat.mul_le_mul_right _ ?_
    split <;> omega
theorem nvF_lt (l : List UInt8) : nvF l < 10 ^ l.length := by have := fold_lt l 0; simpa [nvF] using this
theorem nvF_dec (u : Nat) : nvF (Lib.decDigits u) = u := by
  have h : ∀ (l : List UInt8), (∀ c ∈ l, 48 ≤ c.toNat ∧ c.toNat ≤ 57) → ∀ s, l.foldl (fun s c => if 48 ≤ c.toNat ∧ c.toNat ≤ 57 then 10 * s + (c.toNat - 48) else s) s = l.foldl (fun s c => 10 * s + (c.toNat - 48)) s := by
    intro l
    induction l with
    | nil => intro _ s; rfl
    | cons c l ih =>
      intro hl s
      rw [List.foldl_cons, List.foldl_cons, if_pos (hl c (List.mem_cons_self ..))]
      exact ih (fun d hd => hl d (List.mem_cons_of_mem _ hd)) _
  unfold nvF
  rw [h _ (dec_plain u) 0]
  exact dval_dec u
theorem sv_itoa (n : Int) : sv (Lib.itoa n) = n := by
  rcases itoa_cases n with ⟨u, e1, e2⟩ | ⟨u, -, e1, e2⟩
  · rw [e2]
    unfold sv
    rw [nvF_dec, if_neg ?_, e1]
    intro h
    cases hd : Lib.decDigits u with
    | nil => exact absurd hd (dec_ne u)
    | cons c r =>
      rw [hd] at h
      have hc := dec_head hd
      simp only [List.head?_cons, Option.some.injEq] at h
      rw [h] at hc
      exact absurd hc.1 (by decide)
  · rw [e2]
    unfold sv
    rw [if_pos (show (45 :: Lib.decDigits u).head? = some 45 from rfl), e1]
    have : nvF (45 :: Lib.decDigits u) = nvF (Lib.decDigits u) := by simp [nvF]
    rw [this, nvF_dec]
/-- What Number answers: whether a text of at most 14 characters is a number. -/
def isN (l : List UInt8) : Bool := decide (l.length ≤ 14) && decide (Lib.itoa (sv l) = l)
theorem isN_iff {l : List UInt8} : isN l = true ↔ l.length ≤ 14 ∧ Lib.itoa (sv l) = l := by unfold isN; simp
theorem isN_itoa {n : Int} (h : (Lib.itoa n).length ≤ 14) : isN (Lib.itoa n) = true := isN_iff.2 ⟨h, by rw [sv_itoa]⟩

/-! Spans. -/
def okP (p : Int × Int) : Prop := -1099511627776 ≤ p.1 ∧ p.1 ≤ p.2 ∧ p.2 ≤ 1099511627776
def txtP (p : Int × Int) : List UInt8 := Lib.itoa p.1 ++ 46 :: 46 :: Lib.itoa p.2
theorem no46 {n : Int} : ∀ c ∈ Lib.itoa n, c ≠ 46 := fun c hc e => by
  have := itoa_all c hc
  rw [e] at this
  revert this
  decide
theorem split46 : ∀ {x y a b : List UInt8}, (∀ c ∈ x, c ≠ 46) → (∀ c ∈ y, c ≠ 46) → x ++ 46 :: a = y ++ 46 :: b → x = y ∧ a = b
  | [], [], _, _, _, _, h => ⟨rfl, (List.cons.inj h).2⟩
  | [], c :: y, _, _, _, hy, h => by
    rw [List.nil_append, List.cons_append] at h
    exact absurd (List.cons.inj h).1.symm (hy c (List.mem_cons_self ..))
  | c :: x, [], _, _, hx, _, h => by
    rw [List.nil_append, List.cons_append] at h
    exact absurd (List.cons.inj h).1 (hx c (List.mem_cons_self ..))
  | c :: x, d :: y, _, _, hx, hy, h => by
    rw [List.cons_append, List.cons_append] at h
    obtain ⟨h1, h2⟩ := List.cons.inj h
    obtain ⟨e1, e2⟩ := split46 (fun z hz => hx z (List.mem_cons_of_mem _ hz)) (fun z hz => hy z (List.mem_cons_of_mem _ hz)) h2
    exact ⟨by rw [h1, e1], e2⟩
theorem txtP_inj {p q : Int × Int} (h : txtP p = txtP q) : p = q := by
  unfold txtP at h
  obtain ⟨e1, e2⟩ := split46 (fun c hc => no46 c hc) (fun c hc => no46 c hc) h
  have := itoaI e1
  have := itoaI (List.cons.inj e2).2
  exact Prod.ext (by assumption) (by assumption)
theorem okP_len {n : Int} (h1 : -1099511627776 ≤ n) (h2 : n ≤ 1099511627776) : (Lib.itoa n).length ≤ 14 := itoa_len (k := 13) (by omega) (by omega) (by decide)
open Classical in
noncomputable def parS (l : List UInt8) : Option (Int × Int) := if h : ∃ p, okP p ∧ l = txtP p then some h.choose else none
theorem parS_some {p : Int × Int} (h : okP p) : parS (txtP p) = some p := by
  have hx : ∃ q, okP q ∧ txtP p = txtP q := ⟨p, h, rfl⟩
  unfold parS
  rw [dif_pos hx]
  exact congrArg some (txtP_inj hx.choose_spec.2).symm
theorem parS_none {l : List UInt8} (h : ∀ p, okP p → l ≠ txtP p) : parS l = none := by
  unfold parS
  rw [dif_neg]
  rintro ⟨p, h1, h2⟩
  exact h p h1 h2
/-- Two dots at a place. -/
theorem occ_iff {l : List UInt8} {i : Nat} : Lib.occAt l [46, 46] i = true ↔ ∃ r, l.drop i = 46 :: 46 :: r := by
  unfold Lib.occAt
  rw [List.isPrefixOf_iff_prefix]
  constructor
  · rintro ⟨r, h⟩; exact ⟨r, h.symm⟩
  · rintro ⟨r, h⟩; exact ⟨r, h.symm⟩
theorem occ_txt {l : List UInt8} {i : Nat} {r : List UInt8} (h : l.drop i = 46 :: 46 :: r) (hi : i ≤ l.length) : l = l.take i ++ 46 :: 46 :: r := by
  conv => lhs; rw [← List.take_append_drop i l]
  rw [h]
theorem noOcc_txt {p : Int × Int} {j : Nat} (h : j < (Lib.itoa p.1).length) : Lib.occAt (txtP p) [46, 46] j = false := by
  cases ho : Lib.occAt (txtP p) [46, 46] j
  · rfl
  · exfalso
    obtain ⟨r, hr⟩ := occ_iff.1 ho
    have h1 : (txtP p)[j]? = some 46 := by
      have : ((txtP p).drop j)[0]? = some 46 := by rw [hr]; rfl
      simpa using this
    unfold txtP at h1
    rw [List.getElem?_append_left h] at h1
    have := List.mem_of_getElem? h1
    exact no46 46 this rfl
theorem cut_txt (p : Int × Int) : Lib.cut (txtP p) [46, 46] = (Lib.itoa p.1, Lib.itoa p.2, true) := by
  have hi : Lib.index (txtP p) [46, 46] = (Lib.itoa p.1).length := Lib.index_first (by unfold txtP; simp) (occ_iff.2 ⟨Lib.itoa p.2, by unfold txtP; simp⟩) (fun j hj => noOcc_txt hj)
  unfold Lib.cut
  rw [hi, if_pos (by omega)]
  unfold txtP
  simp
theorem cut_is {l : List UInt8} (h : (Lib.cut l [46, 46]).2.2 = true) : l = (Lib.cut l [46, 46]).1 ++ 46 :: 46 :: (Lib.cut l [46, 46]).2.1 := by
  unfold Lib.cut at h ⊢
  split at h
  · rename_i h0
    rcases Lib.index_spec l [46, 46] with ⟨h1, -⟩ | ⟨i, h1, h2, h3, -⟩
    · omega
    · rw [if_pos h0, h1]
      obtain ⟨r, hr⟩ := occ_iff.1 h3
      simp only [Int.toNat_natCast, List.length_cons, List.length_nil]
      have e : l.drop (i + (0 + 1 + 1)) = r := by
        rw [show i + (0 + 1 + 1) = i + 2 from rfl, ← List.drop_drop, hr]; rfl
      rw [e]
      exact occ_txt hr h2
  · cases h
/-- What Parse makes of a text. -/
theorem par_cut {l a b : List UInt8} {f : Bool} (h : Lib.cut l [46, 46] = (a, b, f)) :
    parS l = (if f = true then (match rd a, rd b with | some x, some y => if -1099511627776 ≤ x ∧ x ≤ y ∧ y ≤ 1099511627776 then some (x, y) else none | _, _ => none) else none) := by
  by_cases hx : ∃ p, okP p ∧ l = txtP p
  · obtain ⟨p, hp, rfl⟩ := hx
    rw [cut_txt] at h
    obtain ⟨rfl, h2⟩ := Prod.mk.inj h
    obtain ⟨rfl, rfl⟩ := Prod.mk.inj h2
    have b1 := hp.1; have b2 := hp.2.1; have b3 := hp.2.2
    rw [parS_some hp, if_pos rfl, (rd_iff (v := p.1)).2 ⟨rfl, by omega, by omega⟩, (rd_iff (v := p.2)).2 ⟨rfl, by omega, by omega⟩]
    dsimp only
    rw [if_pos ⟨b1, b2, b3⟩]
  · rw [parS_none (fun p h1 h2 => hx ⟨p, h1, h2⟩)]
    by_cases hf : f = true
    · rw [if_pos hf]
      split
      · rename_i x y hx1 hy1
        split
        · rename_i hv
          exfalso
          have hc := cut_is (l := l) (by rw [h]; exact hf)
          rw [h] at hc
          exact hx ⟨(x, y), hv, by rw [hc]; unfold txtP; rw [(rd_iff.1 hx1).1, (rd_iff.1 hy1).1]⟩
        · rfl
      · rfl
    · rw [if_neg hf]
end Go.Proofs.YtpdhkgfdmpofiaaGreatDoor
