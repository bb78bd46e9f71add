/-
  Curves as texts: the plain law.
-/
import Derived.Test.YtolnbblikfpnbaaDoorG6CurveTexts
import Derived.Lib.Split
import Derived.Lib.SplitLaws
import Derived.Test.YtolnbblikfpnbaaDoorProg
import Derived.Shelf.Strings.Builder1
import Derived.Shelf.Strings.Builder2
import Derived.Shelf.Strings.OnBuilder
import Derived.Shelf.Utf8.RuneCount
import Derived.Shelf.Strconv.Itoa0
import Derived.Shelf.Strconv.Itoa1
import Derived.Shelf.LaysM
import Derived.Shelf.Strconv.Itoa2
import Derived.Shelf.Strconv.Itoa3
import Derived.Shelf.Strconv.Itoa4
import Derived.Shelf.Strconv.ParseIntEmpty
import Derived.Shelf.Strconv.Clone
import Derived.Shelf.Strconv.SyntaxError
import Derived.Shelf.LaysC
import Derived.Shelf.Strconv.ToError
import Derived.Shelf.Strconv.Lower
import Derived.Shelf.Strconv.ParseUint10
import Derived.Shelf.Strconv.ParseUint10Empty
import Derived.Shelf.Strconv.ParseUint10Any
import Derived.Shelf.Strconv.ParseInt10
import Derived.Shelf.Strconv.RangeError
import Derived.Shelf.Strconv.ToErrorRange
import Derived.Shelf.Strconv.ParseUintEmpty
import Derived.Shelf.Strconv.ParseUint10b64
import Derived.Shelf.Strconv.ParseUint10b32
import Derived.Shelf.Strconv.ParseUint10b16
import Derived.Shelf.Strconv.ParseUint10b8
import Derived.Shelf.Strconv.ParseUint10At
import Derived.Shelf.Strconv.ParseInt10At64
import Derived.Shelf.Strconv.ParseInt10At32
import Derived.Shelf.Strconv.ParseInt10At16
import Derived.Shelf.Strconv.ParseInt10At8
import Derived.Shelf.Strconv.ParseInt10All
import Derived.Shelf.Strconv.ParseIntPublic10
import Derived.Shelf.Strings.Search1
import Derived.Shelf.Strings.Search2
import Derived.Shelf.Strings.Search3
import Derived.Shelf.Strings.Cut
import Derived.Shelf.Strings.Count
import Derived.Shelf.Strings.Shaped
import Derived.Shelf.Strings.Split
import Derived.Shelf.Strings.SplitShaped
import Derived.Shelf.Unicode.Decode
import Derived.Shelf.Strings.RuneCount
import Derived.Shelf.Strings.Explode
import Derived.Shelf.Unicode.DecodeSlow
import Derived.Shelf.Unicode.DecodeAny
import Derived.Ground.SlgfProg
import Derived.Shelf.SlicesE.IndexFunc
import Derived.Test.YtolnbblikfpnbaaDoorG0CurveTexts
import Derived.Laws.IdiomStrings
import Derived.Lib.AtoiErrMem
import Derived.Lib.AppendIntMem
import Derived.Deep.QuietTactic
set_option linter.unusedSimpArgs false
set_option linter.unusedVariables false
namespace Go.Proofs.YtolnbblikfpnbaaDoor

/-! Texts cut at spaces. -/
theorem take_at {l : List UInt8} {i : Nat} {c : UInt8} (h : l[i]? = some c) : l = l.take i ++ c :: l.drop (i + 1) := by
  obtain ⟨hi, hc⟩ := List.getElem?_eq_some_iff.1 h
  conv => lhs; rw [← List.take_append_drop i l]
  rw [List.drop_eq_getElem_cons hi, hc]
theorem splitK_all : ∀ (k : Nat) (l : List UInt8), l.count 32 = k → Lib.join (Lib.splitK [32] 0 k l) [32] = l ∧ (∀ z ∈ Lib.splitK [32] 0 k l, Sp z) ∧ Lib.splitK [32] 0 k l ≠ []
  | 0, l, h => by
    refine ⟨Lib.join_one _ _, fun z hz => ?_, by simp [Lib.splitK]⟩
    obtain rfl : z = l := by simpa [Lib.splitK] using hz
    intro c hc e
    have : c = 32 := UInt8.toNat_inj.1 e
    subst this
    exact absurd (List.count_pos_iff.2 hc) (by omega)
  | k + 1, l, h => by
    rw [Lib.splitK]
    by_cases hx : Lib.index l [32] = -1
    · exfalso
      rw [Lib.index_one] at hx
      have h2 : 0 < l.count 32 := by omega
      obtain ⟨i, hi⟩ := List.getElem?_of_mem (List.count_pos_iff.1 h2)
      exact Lib.indexByte_none hx i hi
    · obtain ⟨i, hi⟩ := Int.eq_ofNat_of_zero_le (show 0 ≤ Lib.index l [32] by have := Lib.index_ge l [32]; omega)
      rw [if_neg (by rw [beq_iff_eq]; exact hx), hi]
      rw [Lib.index_one] at hi
      obtain ⟨h1, h2⟩ := Lib.indexByte_some hi
      have hl := take_at h1
      have hsp : Sp (l.take i) := by
        intro c hc e
        have : c = 32 := UInt8.toNat_inj.1 e
        subst this
        obtain ⟨j, hj⟩ := List.getElem?_of_mem hc
        have hji : j < i := by
          have := (List.getElem?_eq_some_iff.1 hj).1
          rw [List.length_take] at this; omega
        rw [List.getElem?_take_of_lt hji] at hj
        exact h2 j hji hj
      have h0 : (l.take i).count 32 = 0 := List.count_eq_zero.2 fun hc => hsp 32 hc rfl
      have hk : (l.drop (i + 1)).count 32 = k := by
        rw [hl, List.count_append, List.count_cons_self, h0] at h
        omega
      obtain ⟨e1, e2, e3⟩ := splitK_all k _ hk
      simp only [Int.toNat_natCast, Nat.add_zero, List.length_cons, List.length_nil, Nat.zero_add]
      refine ⟨?_, fun z hz => ?_, by simp⟩
      · generalize hr : Lib.splitK [32] 0 k (l.drop (i + 1)) = r at *
        cases r with
        | nil => exact absurd rfl e3
        | cons y r =>
          rw [Lib.join_cons, tail_cons, ← Lib.join_cons, e1]
          exact hl.symm
      · rcases List.mem_cons.1 hz with rfl | hz
        · exact hsp
        · exact e2 z hz
/-- A text's pieces between spaces. -/
def spl (l : List UInt8) : List (List UInt8) := Lib.splitK [32] 0 (l.count 32) l
theorem spl_join (l : List UInt8) : Lib.join (spl l) [32] = l := (splitK_all _ l rfl).1
theorem spl_sp (l : List UInt8) : ∀ z ∈ spl l, Sp z := (splitK_all _ l rfl).2.1
theorem spl_ne (l : List UInt8) : spl l ≠ [] := (splitK_all _ l rfl).2.2
theorem spl_of {x : List UInt8} {xs : List (List UInt8)} (h : ∀ z ∈ x :: xs, Sp z) : spl (Lib.join (x :: xs) [32]) = x :: xs := by
  have h1 := spl_join (Lib.join (x :: xs) [32])
  have h2 := spl_sp (Lib.join (x :: xs) [32])
  have h3 := spl_ne (Lib.join (x :: xs) [32])
  generalize spl (Lib.join (x :: xs) [32]) = r at *
  cases r with
  | nil => exact absurd rfl h3
  | cons y ys => exact join_inj h2 h h1

/-! Points. -/
def pt (p : Int × Int) : List UInt8 := Lib.itoa p.1 ++ 58 :: Lib.itoa p.2
theorem itoa_no {n : Int} {d : UInt8} (hd : d = 58 ∨ d = 32) : ∀ c ∈ Lib.itoa n, c ≠ d := fun c hc e => by
  have := itoa_all c hc
  rw [e] at this
  revert this
  rcases hd with rfl | rfl <;> decide
theorem split_at {d : UInt8} : ∀ {x y a b : List UInt8}, (∀ c ∈ x, c ≠ d) → (∀ c ∈ y, c ≠ d) → x ++ d :: a = y ++ d :: b → x = y ∧ a = b
  | [], [], _, _, _, _, h => ⟨rfl, (List.cons.inj h).2⟩
  | [], c :: y, _, _, _, hy, h => by
    rw [List.nil_append, List.cons_append] at h
    exact absurd (List.cons.inj h).1.symm (hy c (List.mem_cons_self ..))
  | c :: x, [], _, _, hx, _, h => by
    rw [List.nil_append, List.cons_append] at h
    exact absurd (List.cons.inj h).1 (hx c (List.mem_cons_self ..))
  | c :: x, e :: y, _, _, hx, hy, h => by
    rw [List.cons_append, List.cons_append] at h
    obtain ⟨h1, h2⟩ := List.cons.inj h
    obtain ⟨e1, e2⟩ := split_at (fun z hz => hx z (List.mem_cons_of_mem _ hz)) (fun z hz => hy z (List.mem_cons_of_mem _ hz)) h2
    exact ⟨by rw [h1, e1], e2⟩
theorem pt_inj {p q : Int × Int} (h : pt p = pt q) : p = q := by
  obtain ⟨e1, e2⟩ := split_at (itoa_no (.inl rfl)) (itoa_no (.inl rfl)) h
  exact Prod.ext (itoaI e1) (itoaI e2)
theorem pt_sp (p : Int × Int) : Sp (pt p) := by
  intro c hc e
  have : c = 32 := UInt8.toNat_inj.1 e
  subst this
  unfold pt at hc
  rcases List.mem_append.1 hc with hc | hc
  · exact itoa_no (.inr rfl) 32 hc rfl
  · rcases List.mem_cons.1 hc with hc | hc
    · exact absurd hc (by decide)
    · exact itoa_no (.inr rfl) 32 hc rfl
theorem occ1_iff {l : List UInt8} {i : Nat} {d : UInt8} : Lib.occAt l [d] i = true ↔ ∃ r, l.drop i = d :: r := by
  unfold Lib.occAt
  rw [List.isPrefixOf_iff_prefix]
  constructor
  · rintro ⟨r, h⟩; exact ⟨r, h.symm⟩
  · rintro ⟨r, h⟩; exact ⟨r, h.symm⟩
theorem cut_pt (p : Int × Int) : Lib.cut (pt p) [58] = (Lib.itoa p.1, Lib.itoa p.2, true) := by
  have hi : Lib.index (pt p) [58] = (Lib.itoa p.1).length := Lib.index_first (by unfold pt; simp) (occ1_iff.2 ⟨Lib.itoa p.2, by unfold pt; simp⟩) (fun j hj => by
    cases ho : Lib.occAt (pt p) [58] j
    · rfl
    · exfalso
      obtain ⟨r, hr⟩ := occ1_iff.1 ho
      have h1 : (pt p)[j]? = some 58 := by
        have : ((pt p).drop j)[0]? = some 58 := by rw [hr]; rfl
        simpa using this
      unfold pt at h1
      rw [List.getElem?_append_left hj] at h1
      exact itoa_no (.inl rfl) 58 (List.mem_of_getElem? h1) rfl)
  unfold Lib.cut
  rw [hi, if_pos (by omega)]
  unfold pt
  simp
theorem cut58_is {l : List UInt8} (h : (Lib.cut l [58]).2.2 = true) : l = (Lib.cut l [58]).1 ++ 58 :: (Lib.cut l [58]).2.1 := by
  unfold Lib.cut at h ⊢
  split at h
  · rename_i h0
    rcases Lib.index_spec l [58] with ⟨h1, -⟩ | ⟨i, h1, h2, h3, -⟩
    · omega
    · rw [if_pos h0, h1]
      obtain ⟨r, hr⟩ := occ1_iff.1 h3
      simp only [Int.toNat_natCast, List.length_cons, List.length_nil]
      have e : l.drop (i + (0 + 1)) = r := by
        rw [show i + (0 + 1) = i + 1 from rfl, ← List.drop_drop, hr]; rfl
      rw [e]
      conv => lhs; rw [← List.take_append_drop i l]
      rw [hr]
  · cases h
/-- A point read. -/
def rdP (z : List UInt8) : Option (Int × Int) := if (Lib.cut z [58]).2.2 = true then (match rd (Lib.cut z [58]).1, rd (Lib.cut z [58]).2.1 with | some x, some y => some (x, y) | _, _ => none) else none
theorem rdP_is {z : List UInt8} {p : Int × Int} (h : rdP z = some p) : z = pt p := by
  unfold rdP at h
  split at h
  · rename_i hf
    split at h
    · rename_i x y hx hy
      obtain rfl := Option.some.inj h
      have := cut58_is hf
      rw [this]
      unfold pt
      rw [(rd_iff.1 hx).1, (rd_iff.1 hy).1]
    · cases h
  · cases h
theorem rdP_pt {p : Int × Int} (h1 : -9223372036854775808 ≤ p.1 ∧ p.1 ≤ 9223372036854775807) (h2 : -9223372036854775808 ≤ p.2 ∧ p.2 ≤ 9223372036854775807) : rdP (pt p) = some p := by
  unfold rdP
  rw [cut_pt]
  dsimp only
  rw [if_pos rfl, (rd_iff (v := p.1)).2 ⟨rfl, h1⟩, (rd_iff (v := p.2)).2 ⟨rfl, h2⟩]
def rdL : List (List UInt8) → Option (List (Int × Int))
  | [] => some []
  | z :: r => match rdP z, rdL r with
    | some p, some q => some (p :: q)
    | _, _ => none
theorem rdL_is : ∀ {zs : List (List UInt8)} {ps : List (Int × Int)}, rdL zs = some ps → zs = ps.map pt
  | [], ps, h => by obtain rfl := Option.some.inj h; rfl
  | z :: r, ps, h => by
    unfold rdL at h
    split at h
    · rename_i p q hp hq
      obtain rfl := Option.some.inj h
      rw [List.map_cons, ← rdL_is hq, ← rdP_is hp]
    · cases h
theorem rdL_map : ∀ {ps : List (Int × Int)}, (∀ p ∈ ps, isQ p.1 = true ∧ isQ p.2 = true) → rdL (ps.map pt) = some ps
  | [], _ => rfl
  | p :: r, h => by
    have hp := h p (List.mem_cons_self ..)
    rw [isQ_iff, isQ_iff] at hp
    rw [List.map_cons, rdL, rdP_pt ⟨by omega, by omega⟩ ⟨by omega, by omega⟩, rdL_map fun q hq => h q (List.mem_cons_of_mem _ hq)]

/-! Curves. -/
def okL (ps : List (Int × Int)) : Prop := checkC (ps.map (·.1)) (ps.map (·.2)) = 0
def textP (ps : List (Int × Int)) : List UInt8 := Lib.join (ps.map pt) [32]
theorem okC_iff {xs ys : List Int} : checkC xs ys = 0 ↔ xs.length ≤ 64 ∧ ys.length ≤ 64 ∧ goodC xs ys := by
  unfold checkC
  split
  · constructor
    · intro h; exact absurd h (by decide)
    · intro h; omega
  · split
    · rename_i h1 h2; exact ⟨fun _ => ⟨by omega, by omega, h2⟩, fun _ => rfl⟩
    · rename_i h1 h2; exact ⟨fun h => absurd h (by decide), fun h => absurd h.2.2 h2⟩
theorem okL_len {ps : List (Int × Int)} (h : okL ps) : 2 ≤ ps.length ∧ ps.length ≤ 64 := by
  obtain ⟨h1, h2, ⟨h3, h4, -, -⟩, -⟩ := okC_iff.1 h
  simp only [List.length_map] at *
  exact ⟨h4, h1⟩
theorem okL_q {ps : List (Int × Int)} (h : okL ps) : ∀ p ∈ ps, isQ p.1 = true ∧ isQ p.2 = true := by
  obtain ⟨h1, h2, ⟨h3, h4, h5, h6⟩, -⟩ := okC_iff.1 h
  intro p hp
  exact ⟨List.all_eq_true.1 h5 _ (List.mem_map.2 ⟨p, hp, rfl⟩), List.all_eq_true.1 h6 _ (List.mem_map.2 ⟨p, hp, rfl⟩)⟩
theorem ok_zip {xs ys : List Int} (h : checkC xs ys = 0) : okL (xs.zip ys) ∧ (xs.zip ys).map (·.1) = xs ∧ (xs.zip ys).map (·.2) = ys := by
  obtain ⟨h1, h2, ⟨h3, h4, h5, h6⟩, -⟩ := okC_iff.1 h
  have e1 : (xs.zip ys).map (·.1) = xs := List.map_fst_zip (by omega)
  have e2 : (xs.zip ys).map (·.2) = ys := List.map_snd_zip (by omega)
  exact ⟨by unfold okL; rw [e1, e2]; exact h, e1, e2⟩
theorem pts_sp (ps : List (Int × Int)) : ∀ z ∈ ps.map pt, Sp z := by
  intro z hz
  obtain ⟨p, _, rfl⟩ := List.mem_map.1 hz
  exact pt_sp p
theorem spl_text {ps : List (Int × Int)} (h : ps ≠ []) : spl (textP ps) = ps.map pt := by
  cases ps with
  | nil => exact absurd rfl h
  | cons p r =>
    unfold textP
    rw [List.map_cons]
    exact spl_of (by rw [← List.map_cons]; exact pts_sp _)
theorem pts_inj : ∀ {ps qs : List (Int × Int)}, ps.map pt = qs.map pt → ps = qs
  | [], [], _ => rfl
  | [], q :: qs, h => by cases h
  | p :: ps, [], h => by cases h
  | p :: ps, q :: qs, h => by
    rw [List.map_cons, List.map_cons] at h
    obtain ⟨h1, h2⟩ := List.cons.inj h
    rw [pt_inj h1, pts_inj h2]
theorem okL_ne {ps : List (Int × Int)} (h : okL ps) : ps ≠ [] := fun e => by have := okL_len h; rw [e] at this; simp at this
theorem textP_inj {ps qs : List (Int × Int)} (hp : ps ≠ []) (hq : qs ≠ []) (h : textP ps = textP qs) : ps = qs := pts_inj (by rw [← spl_text hp, ← spl_text hq, h])
open Classical in
noncomputable def parP (l : List UInt8) : Option (List (Int × Int)) := if h : ∃ ps, okL ps ∧ l = textP ps then some h.choose else none
theorem parP_some {ps : List (Int × Int)} (h : okL ps) : parP (textP ps) = some ps := by
  have hx : ∃ qs, okL qs ∧ textP ps = textP qs := ⟨ps, h, rfl⟩
  unfold parP
  rw [dif_pos hx]
  exact congrArg some (textP_inj (okL_ne h) (okL_ne hx.choose_spec.1) hx.choose_spec.2).symm
theorem parP_none {l : List UInt8} (h : ∀ ps, okL ps → l ≠ textP ps) : parP l = none := by
  unfold parP
  rw [dif_neg]
  rintro ⟨p, h1, h2⟩
  exact h p h1 h2
/-- What the program's CurveParse makes of a text. -/
theorem parP_q_some {l : List UInt8} {ps : List (Int × Int)} (h : rdL (spl l) = some ps) (hk : checkC (ps.map (·.1)) (ps.map (·.2)) = 0) : parP l = some ps := by
  have e : l = textP ps := by unfold textP; rw [← rdL_is h]; exact (spl_join l).symm
  rw [e]
  exact parP_some hk
theorem parP_q_bad {l : List UInt8} {ps : List (Int × Int)} (h : rdL (spl l) = some ps) (hk : checkC (ps.map (·.1)) (ps.map (·.2)) ≠ 0) : parP l = none := by
  refine parP_none fun qs hq e => ?_
  rw [e, spl_text (okL_ne hq), rdL_map (okL_q hq)] at h
  obtain rfl := Option.some.inj h
  exact hk hq
theorem parP_q_none {l : List UInt8} (h : rdL (spl l) = none) : parP l = none := by
  refine parP_none fun qs hq e => ?_
  rw [e, spl_text (okL_ne hq), rdL_map (okL_q hq)] at h
  cases h
end Go.Proofs.YtolnbblikfpnbaaDoor

/-
  The reference's way of reading a curve: the plain law.
-/
set_option linter.unusedSimpArgs false
set_option linter.unusedVariables false
namespace Go.Proofs.YtolnbblikfpnbaaDoor
/-- The piece from a to i. -/
def seg (l : List UInt8) (a i : Nat) : List UInt8 := (l.drop a).take (i - a)
def scn : Nat → List UInt8 → Nat → Nat → List Int → List Int → Option (List Int × List Int)
  | 0, _, _, _, X, Y => some (X, Y)
  | f + 1, l, i, a, X, Y =>
    if i ≤ l.length ∧ X.length ≤ 64 ∧ Y.length ≤ 64 then
      (if i < l.length ∧ l.getD i 0 ≠ 58 ∧ l.getD i 0 ≠ 32 then scn f l (i + 1) a X Y
      else (if isN (seg l a i) = true then (if i < l.length ∧ l.getD i 0 = 58 then scn f l (i + 1) (i + 1) (X ++ [sv (seg l a i)]) Y else scn f l (i + 1) (i + 1) X (Y ++ [sv (seg l a i)])) else none))
    else some (X, Y)
/-- The state at a place. -/
def scA (l : List UInt8) (i a : Nat) (X Y : List Int) : Option (List Int × List Int) := scn (l.length + 1 - i) l i a X Y
theorem scA_end {l : List UInt8} {i a : Nat} {X Y : List Int} (h : ¬ (i ≤ l.length ∧ X.length ≤ 64 ∧ Y.length ≤ 64)) : scA l i a X Y = some (X, Y) := by
  unfold scA
  cases hf : l.length + 1 - i with
  | zero => rfl
  | succ f => rw [scn, if_neg h]
theorem scA_step {l : List UInt8} {i a : Nat} {X Y : List Int} (h : i ≤ l.length ∧ X.length ≤ 64 ∧ Y.length ≤ 64) :
    scA l i a X Y = if i < l.length ∧ l.getD i 0 ≠ 58 ∧ l.getD i 0 ≠ 32 then scA l (i + 1) a X Y
      else (if isN (seg l a i) = true then (if i < l.length ∧ l.getD i 0 = 58 then scA l (i + 1) (i + 1) (X ++ [sv (seg l a i)]) Y else scA l (i + 1) (i + 1) X (Y ++ [sv (seg l a i)])) else none) := by
  unfold scA
  rw [show l.length + 1 - i = (l.length + 1 - (i + 1)) + 1 by omega, scn, if_pos h]
theorem scA_go {l : List UInt8} {a : Nat} {X Y : List Int} (hX : X.length ≤ 64) (hY : Y.length ≤ 64) : ∀ (n i : Nat), i + n ≤ l.length → (∀ j, i ≤ j → j < i + n → l.getD j 0 ≠ 58 ∧ l.getD j 0 ≠ 32) → scA l i a X Y = scA l (i + n) a X Y
  | 0, i, _, _ => rfl
  | n + 1, i, h, hc => by
    rw [scA_step ⟨by omega, hX, hY⟩, if_pos ⟨by omega, hc i (Nat.le_refl _) (by omega)⟩]
    rw [scA_go hX hY n (i + 1) (by omega) (fun j h1 h2 => hc j (by omega) (by omega))]
    congr 1; omega
theorem getD_drop {l x : List UInt8} {o j : Nat} {c : UInt8} {r : List UInt8} (h : l.drop o = x ++ r) (hj : j < x.length) : l.getD (o + j) c = x.getD j c := by
  have : (l.drop o)[j]? = x[j]? := by rw [h, List.getElem?_append_left hj]
  rw [List.getElem?_drop] at this
  rw [List.getD_eq_getElem?_getD, List.getD_eq_getElem?_getD, this]
theorem getD_at {l x : List UInt8} {o : Nat} {c d : UInt8} {r : List UInt8} (h : l.drop o = x ++ d :: r) : l.getD (o + x.length) c = d := by
  have : (l.drop o)[x.length]? = some d := by rw [h]; simp
  rw [List.getElem?_drop] at this
  rw [List.getD_eq_getElem?_getD, this]; rfl
theorem seg_is {l x r : List UInt8} {o : Nat} (h : l.drop o = x ++ r) : seg l o (o + x.length) = x := by
  unfold seg
  rw [h, show o + x.length - o = x.length by omega]
  simp
theorem itoa_free {n : Int} {l r : List UInt8} {o : Nat} (h : l.drop o = Lib.itoa n ++ r) : ∀ j, o ≤ j → j < o + (Lib.itoa n).length → l.getD j 0 ≠ 58 ∧ l.getD j 0 ≠ 32 := by
  intro j h1 h2
  obtain ⟨k, rfl⟩ := Nat.exists_eq_add_of_le h1
  have hk : k < (Lib.itoa n).length := by omega
  rw [getD_drop h hk, List.getD_eq_getElem?_getD, List.getElem?_eq_getElem hk]
  exact ⟨itoa_no (.inl rfl) _ (List.getElem_mem hk), itoa_no (.inr rfl) _ (List.getElem_mem hk)⟩
theorem isQ_N {n : Int} (h : isQ n = true) : isN (Lib.itoa n) = true := by
  rw [isQ_iff] at h
  exact isN_itoa (okP_len h.1 h.2)
theorem len_drop {l x : List UInt8} {o : Nat} (h : l.drop o = x) (ho : o ≤ l.length) : l.length = o + x.length := by
  rw [← h, List.length_drop]; omega
theorem scA_pts {l : List UInt8} : ∀ (r : List (Int × Int)) (p : Int × Int) (o : Nat) (X Y : List Int), l.drop o = Lib.join ((p :: r).map pt) [32] → o ≤ l.length → (∀ q ∈ p :: r, isQ q.1 = true ∧ isQ q.2 = true) → X.length + (r.length + 1) ≤ 64 → Y.length = X.length →
    scA l o o X Y = some (X ++ (p :: r).map (·.1), Y ++ (p :: r).map (·.2)) := by
  intro r
  induction r with
  | nil =>
    intro p o X Y h ho hq hX hY
    obtain ⟨q1, q2⟩ := hq p (List.mem_cons_self ..)
    rw [List.map_cons, List.map_nil, Lib.join_one] at h
    unfold pt at h
    have hlen := len_drop h ho
    simp only [List.length_append, List.length_cons] at hlen
    simp only [List.length_nil] at hX
    have hd2 : l.drop (o + (Lib.itoa p.1).length + 1) = Lib.itoa p.2 ++ [] := by
      rw [Nat.add_assoc, ← List.drop_drop, h]; simp
    rw [scA_go (by omega) (by omega) (Lib.itoa p.1).length o (by omega) (itoa_free h)]
    rw [scA_step ⟨by omega, by omega, by omega⟩, getD_at h, if_neg (fun q => q.2.1 rfl), seg_is h, if_pos (isQ_N q1), if_pos ⟨by omega, rfl⟩, sv_itoa]
    rw [scA_go (by simp; omega) (by omega) (Lib.itoa p.2).length _ (by omega) (itoa_free hd2)]
    have e2 : o + (Lib.itoa p.1).length + 1 + (Lib.itoa p.2).length = l.length := by omega
    rw [scA_step ⟨by omega, by simp; omega, by omega⟩, if_neg (fun q => by omega), seg_is hd2, if_pos (isQ_N q2), if_neg (fun q => by omega), sv_itoa]
    rw [scA_end (fun q => by omega)]
    rfl
  | cons s r ih =>
    intro p o X Y h ho hq hX hY
    obtain ⟨q1, q2⟩ := hq p (List.mem_cons_self ..)
    rw [List.map_cons, List.map_cons, Lib.join_cons, tail_cons, ← Lib.join_cons, ← List.map_cons] at h
    have h' : l.drop o = Lib.itoa p.1 ++ 58 :: (Lib.itoa p.2 ++ 32 :: Lib.join ((s :: r).map pt) [32]) := by
      rw [h]; unfold pt; simp
    have hlen := len_drop h' ho
    simp only [List.length_append, List.length_cons] at hlen
    simp only [List.length_cons] at hX
    have hd2 : l.drop (o + (Lib.itoa p.1).length + 1) = Lib.itoa p.2 ++ 32 :: Lib.join ((s :: r).map pt) [32] := by
      rw [Nat.add_assoc, ← List.drop_drop, h']; simp
    have hd3 : l.drop (o + (Lib.itoa p.1).length + 1 + (Lib.itoa p.2).length + 1) = Lib.join ((s :: r).map pt) [32] := by
      rw [Nat.add_assoc _ (Lib.itoa p.2).length 1, ← List.drop_drop, hd2]; simp
    rw [scA_go (by omega) (by omega) (Lib.itoa p.1).length o (by omega) (itoa_free h')]
    rw [scA_step ⟨by omega, by omega, by omega⟩, getD_at h', if_neg (fun q => q.2.1 rfl), seg_is h', if_pos (isQ_N q1), if_pos ⟨by omega, rfl⟩, sv_itoa]
    rw [scA_go (by simp; omega) (by omega) (Lib.itoa p.2).length _ (by omega) (itoa_free hd2)]
    rw [scA_step ⟨by omega, by simp; omega, by omega⟩, getD_at hd2, if_neg (fun q => q.2.2 rfl), seg_is hd2, if_pos (isQ_N q2), if_neg (fun q => absurd q.2 (by decide)), sv_itoa]
    rw [ih s _ (X ++ [p.1]) (Y ++ [p.2]) hd3 (by omega) (fun q hq' => hq q (List.mem_cons_of_mem _ hq')) (by simp; omega) (by simp; omega)]
    simp
theorem scA_text {ps : List (Int × Int)} (h : okL ps) : scA (textP ps) 0 0 [] [] = some (ps.map (·.1), ps.map (·.2)) := by
  have hl := okL_len h
  have hq := okL_q h
  cases ps with
  | nil => simp at hl
  | cons p r =>
    have := scA_pts r p 0 [] [] (l := textP (p :: r)) rfl (Nat.zero_le _) hq (by simp only [List.length_nil, List.length_cons] at *; omega) rfl
    simpa using this
/-- A curve's text, by its two lists. -/
def textC (xs ys : List Int) : List UInt8 := textP (xs.zip ys)
/-- What the reference's CurveParse makes of a text. -/
theorem parP_r_some {l : List UInt8} {X Y : List Int} (hk : checkC X Y = 0) (ht : textC X Y = l) : parP l = some (X.zip Y) := by
  rw [← ht]; exact parP_some (ok_zip hk).1
theorem parP_r_none {l : List UInt8} (h : scA l 0 0 [] [] = none) : parP l = none := by
  refine parP_none fun ps hp e => ?_
  rw [e, scA_text hp] at h
  cases h
theorem parP_r_bad {l : List UInt8} {X Y : List Int} (h : scA l 0 0 [] [] = some (X, Y)) (hk : ¬ (checkC X Y = 0 ∧ textC X Y = l)) : parP l = none := by
  refine parP_none fun ps hp e => ?_
  have h2 := scA_text hp
  rw [← e, h] at h2
  obtain ⟨rfl, rfl⟩ := Prod.mk.inj (Option.some.inj h2)
  refine hk ⟨hp, ?_⟩
  unfold textC
  have : (ps.map (·.1)).zip (ps.map (·.2)) = ps := by
    rw [List.zip_map', List.map_id'' ]
    intro x; rfl
  rw [this, e]
end Go.Proofs.YtolnbblikfpnbaaDoor

/-
  Contracts of Go's library, laid for this program.
-/
set_option linter.unusedSimpArgs false
set_option linter.unusedVariables false
namespace Go.Proofs.YtolnbblikfpnbaaDoor
open Go.Shelf
def laysM173_ren : Go.Shelf.Ren := ⟨fun | 173 => 38 | 246 => 53 | 283 => 64 | 284 => 65 | 285 => 66 | 286 => 67 | 129 => 83 | 317 => 82 | 318 => 84 | 319 => 85 | 320 => 86 | 337 => 95 | 338 => 96 | n => n, fun | 2 => 2 | 3 => 3 | 9 => 9 | 4 => 4 | 171 => 93 | 0 => 0 | 53 => 94 | 37 => 74 | 5 => 5 | 173 => 97 | 212 => 115 | 51 => 116 | 20 => 20 | 213 => 117 | 46 => 101 | 232 => 136 | 233 => 137 | n => n, fun | 17 => 1 | 18 => 6 | 19 => 7 | n => n⟩
theorem laysM173 : Go.Proofs.LaysM.n173 Tryd.prog laysM173_ren := {
  mixed := by kernel_rfl
  f129 := Tryd.func83.trans (congrArg some (by kernel_rfl))
  f173 := Tryd.func38.trans (congrArg some (by kernel_rfl))
  f246 := Tryd.func53.trans (congrArg some (by kernel_rfl))
  f283 := Tryd.func64.trans (congrArg some (by kernel_rfl))
  f284 := Tryd.func65.trans (congrArg some (by kernel_rfl))
  f285 := Tryd.func66.trans (congrArg some (by kernel_rfl))
  f286 := Tryd.func67.trans (congrArg some (by kernel_rfl))
  f317 := Tryd.func82.trans (congrArg some (by kernel_rfl))
  f318 := Tryd.func84.trans (congrArg some (by kernel_rfl))
  f319 := Tryd.func85.trans (congrArg some (by kernel_rfl))
  f320 := Tryd.func86.trans (congrArg some (by kernel_rfl))
  f337 := Tryd.func95.trans (congrArg some (by kernel_rfl))
  f338 := Tryd.func96.trans (congrArg some (by kernel_rfl))
  t0 := Tryd.underlying0
  a0 := Tryd.isAgg0
  z0 := Tryd.sizeOf0
  v0 := Tryd.zeroValue0
  t2 := Tryd.underlying2
  a2 := Tryd.isAgg2
  z2 := Tryd.sizeOf2
  v2 := Tryd.zeroValue2
  t3 := Tryd.underlying3
  a3 := Tryd.isAgg3
  z3 := Tryd.sizeOf3
  v3 := Tryd.zeroValue3
  t4 := Tryd.underlying4
  a4 := Tryd.isAgg4
  z4 := Tryd.sizeOf4
  v4 := Tryd.zeroValue4
  t5 := Tryd.underlying5
  a5 := Tryd.isAgg5
  z5 := Tryd.sizeOf5
  v5 := Tryd.zeroValue5
  t9 := Tryd.underlying9
  a9 := Tryd.isAgg9
  z9 := Tryd.sizeOf9
  v9 := Tryd.zeroValue9
  t20 := Tryd.underlying20
  a20 := Tryd.isAgg20
  z20 := Tryd.sizeOf20
  v20 := Tryd.zeroValue20
  t37 := Tryd.underlying74
  a37 := Tryd.isAgg74
  z37 := Tryd.sizeOf74
  v37 := Tryd.zeroValue74
  t46 := Tryd.underlying101
  a46 := Tryd.isAgg101
  z46 := Tryd.sizeOf101
  v46 := Tryd.zeroValue101
  t51 := Tryd.underlying116
  a51 := Tryd.isAgg116
  z51 := Tryd.sizeOf116
  v51 := Tryd.zeroValue116
  t53 := Tryd.underlying94
  a53 := Tryd.isAgg94
  z53 := Tryd.sizeOf94
  v53 := Tryd.zeroValue94
  t171 := Tryd.underlying93
  a171 := Tryd.isAgg93
  z171 := Tryd.sizeOf93
  v171 := Tryd.zeroValue93
  t173 := Tryd.underlying97
  a173 := Tryd.isAgg97
  z173 := Tryd.sizeOf97
  v173 := Tryd.zeroValue97
  t212 := Tryd.underlying115
  a212 := Tryd.isAgg115
  z212 := Tryd.sizeOf115
  v212 := Tryd.zeroValue115
  t213 := Tryd.underlying117
  a213 := Tryd.isAgg117
  z213 := Tryd.sizeOf117
  t232 := Tryd.underlying136
  a232 := Tryd.isAgg136
  z232 := Tryd.sizeOf136
  v232 := Tryd.zeroValue136
  t233 := Tryd.underlying137
  a233 := Tryd.isAgg137
  z233 := Tryd.sizeOf137
  v233 := Tryd.zeroValue137
  g17 := by kernel_rfl
  g18 := by kernel_rfl
  g19 := by kernel_rfl
  i0 := by kernel_rfl
  i2 := by kernel_rfl
  i3 := by kernel_rfl
  i4 := by kernel_rfl
  i5 := by kernel_rfl
  i9 := by kernel_rfl
  i20 := by kernel_rfl
  i37 := by kernel_rfl
  i46 := by kernel_rfl
  i51 := by kernel_rfl
  i53 := by kernel_rfl
  i171 := by kernel_rfl
  i173 := by kernel_rfl
  i212 := by kernel_rfl
  i232 := by kernel_rfl
  i233 := by kernel_rfl
  m17 := by kernel_rfl
  m18 := by kernel_rfl
  m19 := by kernel_rfl }
def laysC174_ren : Go.Shelf.Ren := ⟨fun | 174 => 41 | 247 => 55 | 245 => 56 | 287 => 72 | 279 => 73 | 280 => 74 | 281 => 75 | 282 => 76 | 321 => 89 | 322 => 90 | 316 => 91 | 171 => 93 | 205 => 92 | 243 => 97 | 246 => 53 | 283 => 64 | 284 => 65 | 285 => 66 | 286 => 67 | 129 => 83 | 317 => 82 | 318 => 84 | 319 => 85 | 320 => 86 | 337 => 95 | 338 => 96 | n => n, fun | 9 => 9 | 3 => 3 | 2 => 2 | 75 => 64 | 85 => 65 | 4 => 4 | 167 => 102 | 5 => 5 | 53 => 94 | 175 => 103 | 46 => 101 | 168 => 105 | 37 => 74 | 0 => 0 | 210 => 126 | 21 => 21 | 127 => 90 | 145 => 131 | 143 => 129 | 171 => 93 | 173 => 97 | 212 => 115 | 51 => 116 | 20 => 20 | 213 => 117 | 232 => 136 | 233 => 137 | 80 => 80 | n => n, fun | 15 => 2 | 16 => 3 | 17 => 1 | 18 => 6 | 19 => 7 | n => n⟩
theorem laysC174 : Go.Proofs.LaysC.n174 Tryd.prog laysC174_ren := {
  mixed := by kernel_rfl
  f129 := Tryd.func83.trans (congrArg some (by kernel_rfl))
  f171 := Tryd.func93.trans (congrArg some (by kernel_rfl))
  f174 := Tryd.func41.trans (congrArg some (by kernel_rfl))
  f205 := Tryd.func92.trans (congrArg some (by kernel_rfl))
  f243 := Tryd.func97.trans (congrArg some (by kernel_rfl))
  f245 := Tryd.func56.trans (congrArg some (by kernel_rfl))
  f246 := Tryd.func53.trans (congrArg some (by kernel_rfl))
  f247 := Tryd.func55.trans (congrArg some (by kernel_rfl))
  f279 := Tryd.func73.trans (congrArg some (by kernel_rfl))
  f280 := Tryd.func74.trans (congrArg some (by kernel_rfl))
  f281 := Tryd.func75.trans (congrArg some (by kernel_rfl))
  f282 := Tryd.func76.trans (congrArg some (by kernel_rfl))
  f283 := Tryd.func64.trans (congrArg some (by kernel_rfl))
  f284 := Tryd.func65.trans (congrArg some (by kernel_rfl))
  f285 := Tryd.func66.trans (congrArg some (by kernel_rfl))
  f286 := Tryd.func67.trans (congrArg some (by kernel_rfl))
  f287 := Tryd.func72.trans (congrArg some (by kernel_rfl))
  f316 := Tryd.func91.trans (congrArg some (by kernel_rfl))
  f317 := Tryd.func82.trans (congrArg some (by kernel_rfl))
  f318 := Tryd.func84.trans (congrArg some (by kernel_rfl))
  f319 := Tryd.func85.trans (congrArg some (by kernel_rfl))
  f320 := Tryd.func86.trans (congrArg some (by kernel_rfl))
  f321 := Tryd.func89.trans (congrArg some (by kernel_rfl))
  f322 := Tryd.func90.trans (congrArg some (by kernel_rfl))
  f337 := Tryd.func95.trans (congrArg some (by kernel_rfl))
  f338 := Tryd.func96.trans (congrArg some (by kernel_rfl))
  t0 := Tryd.underlying0
  a0 := Tryd.isAgg0
  z0 := Tryd.sizeOf0
  v0 := Tryd.zeroValue0
  t2 := Tryd.underlying2
  a2 := Tryd.isAgg2
  z2 := Tryd.sizeOf2
  v2 := Tryd.zeroValue2
  t3 := Tryd.underlying3
  a3 := Tryd.isAgg3
  z3 := Tryd.sizeOf3
  v3 := Tryd.zeroValue3
  t4 := Tryd.underlying4
  a4 := Tryd.isAgg4
  z4 := Tryd.sizeOf4
  v4 := Tryd.zeroValue4
  t5 := Tryd.underlying5
  a5 := Tryd.isAgg5
  z5 := Tryd.sizeOf5
  v5 := Tryd.zeroValue5
  t9 := Tryd.underlying9
  a9 := Tryd.isAgg9
  z9 := Tryd.sizeOf9
  v9 := Tryd.zeroValue9
  t20 := Tryd.underlying20
  a20 := Tryd.isAgg20
  z20 := Tryd.sizeOf20
  v20 := Tryd.zeroValue20
  t21 := Tryd.underlying21
  a21 := Tryd.isAgg21
  z21 := Tryd.sizeOf21
  v21 := Tryd.zeroValue21
  t37 := Tryd.underlying74
  a37 := Tryd.isAgg74
  z37 := Tryd.sizeOf74
  v37 := Tryd.zeroValue74
  t46 := Tryd.underlying101
  a46 := Tryd.isAgg101
  z46 := Tryd.sizeOf101
  v46 := Tryd.zeroValue101
  t51 := Tryd.underlying116
  a51 := Tryd.isAgg116
  z51 := Tryd.sizeOf116
  v51 := Tryd.zeroValue116
  t53 := Tryd.underlying94
  a53 := Tryd.isAgg94
  z53 := Tryd.sizeOf94
  v53 := Tryd.zeroValue94
  t75 := Tryd.underlying64
  a75 := Tryd.isAgg64
  z75 := Tryd.sizeOf64
  v75 := Tryd.zeroValue64
  t85 := Tryd.underlying65
  a85 := Tryd.isAgg65
  z85 := Tryd.sizeOf65
  v85 := Tryd.zeroValue65
  t127 := Tryd.underlying90
  a127 := Tryd.isAgg90
  z127 := Tryd.sizeOf90
  v127 := Tryd.zeroValue90
  t143 := Tryd.underlying129
  a143 := Tryd.isAgg129
  z143 := Tryd.sizeOf129
  v143 := Tryd.zeroValue129
  t145 := Tryd.underlying131
  a145 := Tryd.isAgg131
  z145 := Tryd.sizeOf131
  v145 := Tryd.zeroValue131
  t167 := Tryd.underlying102
  a167 := Tryd.isAgg102
  z167 := Tryd.sizeOf102
  v167 := Tryd.zeroValue102
  t168 := Tryd.underlying105
  a168 := Tryd.isAgg105
  z168 := Tryd.sizeOf105
  v168 := Tryd.zeroValue105
  t171 := Tryd.underlying93
  a171 := Tryd.isAgg93
  z171 := Tryd.sizeOf93
  v171 := Tryd.zeroValue93
  t173 := Tryd.underlying97
  a173 := Tryd.isAgg97
  z173 := Tryd.sizeOf97
  v173 := Tryd.zeroValue97
  t175 := Tryd.underlying103
  a175 := Tryd.isAgg103
  z175 := Tryd.sizeOf103
  v175 := Tryd.zeroValue103
  t210 := Tryd.underlying126
  a210 := Tryd.isAgg126
  z210 := Tryd.sizeOf126
  v210 := Tryd.zeroValue126
  t212 := Tryd.underlying115
  a212 := Tryd.isAgg115
  z212 := Tryd.sizeOf115
  v212 := Tryd.zeroValue115
  t213 := Tryd.underlying117
  a213 := Tryd.isAgg117
  z213 := Tryd.sizeOf117
  t232 := Tryd.underlying136
  a232 := Tryd.isAgg136
  z232 := Tryd.sizeOf136
  v232 := Tryd.zeroValue136
  t233 := Tryd.underlying137
  a233 := Tryd.isAgg137
  z233 := Tryd.sizeOf137
  v233 := Tryd.zeroValue137
  g15 := by kernel_rfl
  g16 := by kernel_rfl
  g17 := by kernel_rfl
  g18 := by kernel_rfl
  g19 := by kernel_rfl
  t80 := Tryd.underlying80
  a80 := Tryd.isAgg80
  z80 := Tryd.sizeOf80
  v80 := Tryd.zeroValue80
  i0 := by kernel_rfl
  i2 := by kernel_rfl
  i3 := by kernel_rfl
  i4 := by kernel_rfl
  i5 := by kernel_rfl
  i9 := by kernel_rfl
  i20 := by kernel_rfl
  i21 := by kernel_rfl
  i37 := by kernel_rfl
  i46 := by kernel_rfl
  i51 := by kernel_rfl
  i53 := by kernel_rfl
  i75 := by kernel_rfl
  i80 := by kernel_rfl
  i85 := by kernel_rfl
  i127 := by kernel_rfl
  i143 := by kernel_rfl
  i145 := by kernel_rfl
  i167 := by kernel_rfl
  i168 := by kernel_rfl
  i171 := by kernel_rfl
  i173 := by kernel_rfl
  i175 := by kernel_rfl
  i210 := by kernel_rfl
  i212 := by kernel_rfl
  i232 := by kernel_rfl
  i233 := by kernel_rfl
  m15 := by kernel_rfl
  m16 := by kernel_rfl
  m17 := by kernel_rfl
  m18 := by kernel_rfl
  m19 := by kernel_rfl
  c0 := by kernel_rfl
  c2 := by kernel_rfl
  c3 := by kernel_rfl
  c4 := by kernel_rfl
  c5 := by kernel_rfl
  c9 := by kernel_rfl
  c20 := by kernel_rfl
  c21 := by kernel_rfl
  c37 := by kernel_rfl
  c46 := by kernel_rfl
  c51 := by kernel_rfl
  c53 := by kernel_rfl
  c75 := by kernel_rfl
  c80 := by kernel_rfl
  c85 := by kernel_rfl
  c127 := by kernel_rfl
  c143 := by kernel_rfl
  c145 := by kernel_rfl
  c167 := by kernel_rfl
  c168 := by kernel_rfl
  c171 := by kernel_rfl
  c173 := by kernel_rfl
  c175 := by kernel_rfl
  c210 := by kernel_rfl
  c212 := by kernel_rfl
  c213 := by kernel_rfl
  c232 := by kernel_rfl
  c233 := by kernel_rfl }
def lays145_ren : Go.Shelf.Ren := ⟨fun | 145 => 22 | 220 => 40 | 219 => 54 | 217 => 68 | 225 => 69 | 224 => 70 | 267 => 71 | 266 => 87 | 314 => 88 | n => n, fun | 9 => 9 | 4 => 4 | 59 => 46 | 3 => 3 | 5 => 5 | 46 => 101 | 146 => 120 | 51 => 116 | n => n, fun | 1 => 0 | n => n⟩
theorem lays145 : Go.Proofs.Lays.n145 Tryd.prog lays145_ren := {
  mixed := by kernel_rfl
  f145 := Tryd.func22.trans (congrArg some (by kernel_rfl))
  f217 := Tryd.func68.trans (congrArg some (by kernel_rfl))
  f219 := Tryd.func54.trans (congrArg some (by kernel_rfl))
  f220 := Tryd.func40.trans (congrArg some (by kernel_rfl))
  f224 := Tryd.func70.trans (congrArg some (by kernel_rfl))
  f225 := Tryd.func69.trans (congrArg some (by kernel_rfl))
  f266 := Tryd.func87.trans (congrArg some (by kernel_rfl))
  f267 := Tryd.func71.trans (congrArg some (by kernel_rfl))
  f314 := Tryd.func88.trans (congrArg some (by kernel_rfl))
  t3 := Tryd.underlying3
  a3 := Tryd.isAgg3
  z3 := Tryd.sizeOf3
  v3 := Tryd.zeroValue3
  t4 := Tryd.underlying4
  a4 := Tryd.isAgg4
  z4 := Tryd.sizeOf4
  v4 := Tryd.zeroValue4
  t5 := Tryd.underlying5
  a5 := Tryd.isAgg5
  z5 := Tryd.sizeOf5
  v5 := Tryd.zeroValue5
  t9 := Tryd.underlying9
  a9 := Tryd.isAgg9
  z9 := Tryd.sizeOf9
  v9 := Tryd.zeroValue9
  t46 := Tryd.underlying101
  a46 := Tryd.isAgg101
  z46 := Tryd.sizeOf101
  v46 := Tryd.zeroValue101
  t51 := Tryd.underlying116
  a51 := Tryd.isAgg116
  z51 := Tryd.sizeOf116
  v51 := Tryd.zeroValue116
  t59 := Tryd.underlying46
  a59 := Tryd.isAgg46
  z59 := Tryd.sizeOf46
  v59 := Tryd.zeroValue46
  t146 := Tryd.underlying120
  a146 := Tryd.isAgg120
  z146 := Tryd.sizeOf120
  v146 := Tryd.zeroValue120
  g1 := by kernel_rfl }
end Go.Proofs.YtolnbblikfpnbaaDoor

/-
  strconv.FormatInt, strconv.ParseInt, strings.Cut at two dots; write and read of package quantity.
-/
set_option linter.unusedSimpArgs false
set_option linter.unusedVariables false
namespace Go.Proofs.YtolnbblikfpnbaaDoor
open Sx Go.RowKit
theorem bAl'' {W : World} {o : Obj} : Below W.heap.size W (W.alloc o) := (Below.refl _ _).alloc (Nat.le_refl _) _
theorem bdrewN (w : World) (n : Nat) : Below w.heap.size w (w.drewN n) := by
  repeat' (first | exact Below.refl _ _ | apply bDrewN)
theorem ba_inj {a b : ByteArray} (h : a.data.toList = b.data.toList) : a = b := by
  obtain ⟨⟨x⟩⟩ := a
  obtain ⟨⟨y⟩⟩ := b
  have h' : x = y := h
  rw [h']
theorem ba_of {s : ByteArray} {l : List UInt8} (h : l = s.data.toList) : s = ⟨l.toArray⟩ := ba_inj (by rw [h])
theorem ba_nl {a b : ByteArray} (h : ¬ a = b) : ¬ a.toList = b.toList := fun e => h (ba_inj (by rwa [Lib.toList_data, Lib.toList_data] at e))
theorem fmt_any (n : Int) (h0 : -9223372036854775808 ≤ n) (h1 : n ≤ 9223372036854775807) (w : World) (hG : GlobP w) :
    Calls Tryd.prog 38 #[.int .i64 n, .int .i64 10] w fun e w' => e = .returned (.string ⟨(Lib.itoa n).toArray⟩) ∧ Below w.heap.size w w' := by
  refine (Any.strconv_FormatInt_10 laysM173 n h0 h1 w hG.tab).mono fun e w' => ?_
  rintro ⟨rfl, k, os, rfl⟩
  exact ⟨rfl, Lib.below_grow _ _ (Nat.le_refl _) _ _⟩
theorem parse_any (s : ByteArray) (w : World) (hs : s.size ≤ 1000000) (hG : GlobP w) :
    Calls Tryd.prog 41 #[.string s, .int .i64 10, .int .i64 64] w fun e w' => (∃ v x, e = .returned (.tuple #[.int .i64 v, x]) ∧ ((Lib.parseIntB 64 s.data.toList = .ok v ∧ x = .nilIface) ∨ ((∀ u, Lib.parseIntB 64 s.data.toList ≠ .ok u) ∧ -9223372036854775808 ≤ v ∧ v ≤ 9223372036854775807 ∧ ∃ t p, x = .iface t p))) ∧ Below w.heap.size w w' := by
  obtain ⟨-, ⟨t1, v1, h1⟩, ⟨t2, v2, h2⟩, -⟩ := hG
  have k1 := World.var?_cell rngG_is h1 0
  have k2 := World.var?_cell synG_is h2 0
  rcases hn : Lib.parseIntB 64 s.data.toList with v | _ | _
  · refine (Any.strconv_ParseInt_10_at64_ok laysC174 s (by omega) v hn w).mono fun e w' h => ?_
    obtain ⟨rfl, hw⟩ := h
    refine ⟨⟨v, _, rfl, Or.inl ⟨rfl, rfl⟩⟩, ?_⟩
    rcases hw with rfl | ⟨t, rfl⟩
    · exact Below.refl _ _
    · exact Lib.bytesWorld_below _ _ _
  · refine (Any.strconv_ParseInt_10_at64_syntax laysC174 s (by omega) hn _ w (by rw [show laysC174_ren.g 15 = synG by kernel_rfl]; simpa using k2) (Or.inr ⟨_, _, rfl⟩)).mono fun e w' h => ?_
    obtain ⟨N, rfl, -, -, hb⟩ := h
    refine ⟨⟨0, _, rfl, Or.inr ⟨?_, ?_, ?_, _, _, rfl⟩⟩, hb⟩
    · intro u h; cases h
    · decide
    · decide
  · refine (Any.strconv_ParseInt_10_at64_range laysC174 s (by omega) hn _ w (by rw [show laysC174_ren.g 16 = rngG by kernel_rfl]; simpa using k1) (Or.inr ⟨_, _, rfl⟩)).mono fun e w' h => ?_
    obtain ⟨N, rfl, -, -, hb⟩ := h
    refine ⟨⟨Lib.intSat 64 s.data.toList, _, rfl, Or.inr ⟨?_, ?_, ?_, _, _, rfl⟩⟩, hb⟩
    · intro u h; cases h
    · unfold Lib.intSat; split <;> decide
    · unfold Lib.intSat; split <;> decide
set_option maxRecDepth 20000 in
theorem write_any (n : Int) (h0 : -9223372036854775808 ≤ n) (h1 : n ≤ 9223372036854775807) (w : World) (hG : Glob0 w) :
    Calls Tryd.prog 19 #[.int .i64 n] w fun e w' => e = .returned (.string ⟨(Lib.itoa n).toArray⟩) ∧ Below w.heap.size w w' := by
  have C := Lib.hid (fun W hG => fmt_any n h0 h1 W hG)
  have HG := Lib.hid hG
  clear hG h0 h1
  generalize (ByteArray.mk (Lib.itoa n).toArray) = t at *
  go_enter Tryd.func19, Tryd.ntmps19
  go_wp2_with (go_at_call 38; refine (C.out _ HG.out.1).mono ?_; rintro e w1 ⟨rfl, hb1⟩)
  go_ret
  exact ⟨rfl, (by repeat' (first | exact Below.refl _ _ | assumption | apply bDrewN | apply bDrew | apply bAlloc | (refine bSet ?_ ?_ _) | (refine bStep ?_ (by assumption)) | omega | (simp <;> omega)))⟩
/-- What read hands back. -/
def RdIs (s : ByteArray) (v : Int) (b : Bool) : Prop := (rd s.data.toList = some v ∧ b = true) ∨ (rd s.data.toList = none ∧ b = false)
set_option maxRecDepth 20000 in
theorem read_any (s : ByteArray) (w : World) (hs : s.size ≤ 1000000) (hG : Glob0 w) :
    Calls Tryd.prog 23 #[.string s] w fun e w' => (∃ v b, e = .returned (.tuple #[.int .i64 v, .bool b]) ∧ RdIs s v b) ∧ Below w.heap.size w w' := by
  have CP := Lib.hid (fun W hG => parse_any s W hs hG)
  have HG := Lib.hid hG
  clear hG hs
  by_cases hx : ∃ v, Lib.parseIntB 64 s.data.toList = .ok v
  · obtain ⟨v, hv⟩ := hx
    have hbd := parse_bd hv
    have CP2 : Hid (∀ W, GlobP W → Calls Tryd.prog 41 #[.string s, .int .i64 10, .int .i64 64] W fun e w' => e = .returned (.tuple #[.int .i64 v, .nilIface]) ∧ Below W.heap.size W w') := fun W hG => (CP.out W hG).mono fun e w' h => by
      obtain ⟨⟨u, x, rfl, hu⟩, hb⟩ := h
      rcases hu with ⟨h1, rfl⟩ | ⟨h1, -⟩
      · rw [hv] at h1
        injection h1 with h1
        subst h1
        exact ⟨rfl, hb⟩
      · exact absurd hv (h1 v)
    have CW := Lib.hid (fun W hG => write_any v hbd.1 hbd.2 W hG)
    clear CP hbd
    by_cases he : Lib.itoa v = s.data.toList
    · have hr : rd s.data.toList = some v := by unfold rd; rw [hv]; dsimp only; rw [if_pos he]
      have HR := Lib.hid (show RdIs s v true from .inl ⟨hr, rfl⟩)
      rw [← ba_of he] at CW
      clear hr hv he
      go_enter Tryd.func23, Tryd.ntmps23
      go_wp2_with (first
        | (go_at_call 41; refine (CP2.out _ HG.out.1).mono ?_; rintro e w1 ⟨rfl, hb1⟩)
        | (go_at_call 19; refine (CW.out _ (gstep HG.out (by repeat' (first | exact Below.refl _ _ | assumption | apply bDrewN | apply bDrew | apply bAlloc | (refine bSet ?_ ?_ _) | (refine bStep ?_ (by assumption)) | omega | (simp <;> omega))))).mono ?_; rintro e w2 ⟨rfl, hb2⟩))
      exact bodyPost_ret (v := .tuple #[.int .i64 v, .bool true]) (by simp only [results, Tryd.results23]; go_simp) rfl ⟨⟨v, true, rfl, HR.out⟩, (by repeat' (first | exact Below.refl _ _ | assumption | apply bDrewN | apply bDrew | apply bAlloc | (refine bSet ?_ ?_ _) | (refine bStep ?_ (by assumption)) | omega | (simp <;> omega)))⟩
    · have hr : rd s.data.toList = none := by unfold rd; rw [hv]; dsimp only; rw [if_neg he]
      have HR := Lib.hid (show RdIs s v false from .inr ⟨hr, rfl⟩)
      have hne : ¬ (ByteArray.mk (Lib.itoa v).toArray).toList = s.toList := ba_nl fun e => he (by rw [← e])
      clear hr hv he
      generalize (ByteArray.mk (Lib.itoa v).toArray) = t at *
      go_enter Tryd.func23, Tryd.ntmps23
      go_wp2_with (first
        | (go_at_call 41; refine (CP2.out _ HG.out.1).mono ?_; rintro e w1 ⟨rfl, hb1⟩)
        | (go_at_call 19; refine (CW.out _ (gstep HG.out (by repeat' (first | exact Below.refl _ _ | assumption | apply bDrewN | apply bDrew | apply bAlloc | (refine bSet ?_ ?_ _) | (refine bStep ?_ (by assumption)) | omega | (simp <;> omega))))).mono ?_; rintro e w2 ⟨rfl, hb2⟩))
      exact bodyPost_ret (v := .tuple #[.int .i64 v, .bool false]) (by simp only [results, Tryd.results23]; go_simp) rfl ⟨⟨v, false, rfl, HR.out⟩, (by repeat' (first | exact Below.refl _ _ | assumption | apply bDrewN | apply bDrew | apply bAlloc | (refine bSet ?_ ?_ _) | (refine bStep ?_ (by assumption)) | omega | (simp <;> omega)))⟩
  · have hr : rd s.data.toList = none := by
      unfold rd
      split
      · rename_i u hu; exact absurd ⟨u, hu⟩ hx
      · rfl
    have CP2 : Hid (∀ W, GlobP W → Calls Tryd.prog 41 #[.string s, .int .i64 10, .int .i64 64] W fun e w' => (∃ v t p, e = .returned (.tuple #[.int .i64 v, .iface t p])) ∧ Below W.heap.size W w') := fun W hG => (CP.out W hG).mono fun e w' h => by
      obtain ⟨⟨u, x, rfl, hu⟩, hb⟩ := h
      rcases hu with ⟨h1, rfl⟩ | ⟨h1, -, -, t, p, rfl⟩
      · exact absurd ⟨u, h1⟩ hx
      · exact ⟨⟨u, t, p, rfl⟩, hb⟩
    have HR := Lib.hid (show ∀ v, RdIs s v false from fun v => .inr ⟨hr, rfl⟩)
    clear CP hx hr
    go_enter Tryd.func23, Tryd.ntmps23
    go_wp2_with (go_at_call 41; refine (CP2.out _ HG.out.1).mono ?_; rintro e w1 ⟨⟨v, t, p, rfl⟩, hb1⟩)
    exact bodyPost_ret (v := .tuple #[.int .i64 v, .bool false]) (by simp only [results, Tryd.results23]; go_simp) rfl ⟨⟨v, false, rfl, HR.out v⟩, (by repeat' (first | exact Below.refl _ _ | assumption | apply bDrewN | apply bDrew | apply bAlloc | (refine bSet ?_ ?_ _) | (refine bStep ?_ (by assumption)) | omega | (simp <;> omega)))⟩
/-- strings.Cut at two dots. -/
theorem cut2_any (s : ByteArray) (w : World) (hs : s.size ≤ 1000000) (hG : Glob0 w) :
    Calls Tryd.prog 22 #[.string s, .string ⟨#[46, 46]⟩] w fun e w' => e = .returned (.tuple #[.string ⟨(Lib.cut s.data.toList [46, 46]).1.toArray⟩, .string ⟨(Lib.cut s.data.toList [46, 46]).2.1.toArray⟩, .bool (Lib.cut s.data.toList [46, 46]).2.2]) ∧ Below w.heap.size w w' := by
  obtain ⟨m, hm⟩ := hG.1.max
  refine (Any.strings_Cut lays145 s ⟨#[46, 46]⟩ m w (by omega) (by rw [show lays145_ren.g 1 = maxG by kernel_rfl]; exact hm)).mono fun e w' h => ?_
  obtain ⟨rfl, n, rfl⟩ := h
  exact ⟨rfl, bdrewN w n⟩
end Go.Proofs.YtolnbblikfpnbaaDoor

/-
  Drawn regions with calls: the class of the worlds behind a world.
-/
set_option linter.unusedSimpArgs false
set_option linter.unusedVariables false
namespace Go.Proofs.YtolnbblikfpnbaaDoor
open Go.RowKit
def WStep (w : World) : Type := { W : World // Below w.heap.size w W }
instance (w : World) : Nonempty (WStep w) := ⟨⟨w, Below.refl _ _⟩⟩
theorem wp_region_step {P : Program} {id : Nat} {Q : Exit → Act → World → Prop} {a : Act} {w : World} {l : List Oper} (hm : P.follows .mixedOrders = true) (hB : Region.lexB .any l.toArray = true)
    (h : wpQuiet P l.toArray (fun W => ∃ s : WStep w, W = s.1) (fun a' => ∀ w', (∃ s : WStep w, w' = s.1) → Q .normal a' w') l a) : (Code.region id l.toArray true).wp P Q a w :=
  wp_region_quiet (C := fun W => ∃ s : WStep w, W = s.1) hm hB ⟨⟨w.drew, (Below.refl _ _).drew⟩, rfl⟩ (by simpa using h)
/-- A contract for each world behind w. -/
theorem step_call {P : Program} {f : FuncId} {args : Array Value} {w : World} {v : Value} (s : WStep w) (h : Calls P f args s.1 fun e w' => e = .returned v ∧ Below s.1.heap.size s.1 w') :
    Calls P f args s.1 fun e w' => e = .returned v ∧ ∃ t : WStep w, w' = t.1 := h.mono fun _ w' q => ⟨q.1, ⟨w', bStep s.2 q.2⟩, rfl⟩
end Go.Proofs.YtolnbblikfpnbaaDoor

/-
  The reference's Digits and Number.
-/
set_option linter.unusedSimpArgs false
set_option linter.unusedVariables false
namespace Go.Proofs.YtolnbblikfpnbaaDoor
open Sx Go.RowKit
theorem ba_app (a b : List UInt8) : (ByteArray.mk a.toArray) ++ (ByteArray.mk b.toArray) = ⟨(a ++ b).toArray⟩ := ba_inj (by simp)
theorem dig_one {d : Nat} (h : d < 10) : Lib.decDigits d = [UInt8.ofNat (48 + d)] := Lib.decDigits_one h
set_option maxHeartbeats 1000000 in
set_option maxRecDepth 20000 in
theorem Digits_small (u : Nat) (h : u < 10) (w : World) : Calls Tryd.prog 21 #[.int .i64 (u : Int)] w fun e w' => e = .returned (.string ⟨(Lib.decDigits u).toArray⟩) ∧ Below w.heap.size w w' := by
  rw [dig_one h]
  have hc : u = 0 ∨ u = 1 ∨ u = 2 ∨ u = 3 ∨ u = 4 ∨ u = 5 ∨ u = 6 ∨ u = 7 ∨ u = 8 ∨ u = 9 := by omega
  rcases hc with rfl | rfl | rfl | rfl | rfl | rfl | rfl | rfl | rfl | rfl
  all_goals
    clear h
    go_enter Tryd.func21, Tryd.ntmps21
    go_wp2_with fail
    go_ret
    exact ⟨by first | rfl | decide +kernel, (by repeat' (first | exact Below.refl _ _ | assumption | apply bDrewN | apply bDrew | apply bAlloc | (refine bSet ?_ ?_ _) | (refine bStep ?_ (by assumption)) | omega | (simp <;> omega)))⟩
set_option maxHeartbeats 1000000 in
set_option maxRecDepth 20000 in
theorem Digits_nat : ∀ (u : Nat), u < 9223372036854775808 → ∀ w : World, Calls Tryd.prog 21 #[.int .i64 (u : Int)] w fun e w' => e = .returned (.string ⟨(Lib.decDigits u).toArray⟩) ∧ Below w.heap.size w w' := by
  intro u
  induction u using Nat.strongRecOn with
  | ind u ih =>
    intro hu w
    by_cases h : u < 10
    · exact Digits_small u h w
    · have C1 := ih (u / 10) (by omega) (by omega)
      have C2 := ih (u % 10) (by omega) (by omega)
      rw [dec_step h]
      rw [dig_one (show u % 10 < 10 by omega)] at C2
      have hl := dec_le (k := 19) (u := u / 10) (by decide) (by omega)
      have e1 : ((u / 10 : Nat) : Int) = (u : Int) / 10 := by omega
      have e2 : ((u % 10 : Nat) : Int) = (u : Int) % 10 := by omega
      rw [e1] at C1
      rw [e2] at C2
      have h1 : ¬ (u : Int) < 0 := by omega
      have h2 : 9 < (u : Int) := by omega
      generalize Lib.decDigits (u / 10) = x at *
      generalize UInt8.ofNat (48 + u % 10) = c at *
      have h3 : ¬ 9223372036854775807 < x.length + 1 := by omega
      have h4 : x.length + 1 ≤ 9223372036854775807 := by omega
      have K1 := Lib.hid C1
      have K2 := Lib.hid C2
      clear ih h hl C1 C2 e1 e2
      go_enter Tryd.func21, Tryd.ntmps21
      go_wp2_with (go_at_call 21; first
        | (with_reducible refine (K1.out _).mono ?_; rintro e w1 ⟨rfl, hb1⟩)
        | (with_reducible refine (K2.out _).mono ?_; rintro e w2 ⟨rfl, hb2⟩))
      go_ret
      exact ⟨by rw [← ba_app]; rfl, (by repeat' (first | exact Below.refl _ _ | assumption | apply bDrewN | apply bDrew | apply bAlloc | (refine bSet ?_ ?_ _) | (refine bStep ?_ (by assumption)) | omega | (simp <;> omega)))⟩
set_option maxHeartbeats 1000000 in
set_option maxRecDepth 20000 in
theorem Digits_any (n : Int) (h0 : -9223372036854775808 < n) (h1 : n ≤ 9223372036854775807) (w : World) : Calls Tryd.prog 21 #[.int .i64 n] w fun e w' => e = .returned (.string ⟨(Lib.itoa n).toArray⟩) ∧ Below w.heap.size w w' := by
  rcases itoa_cases n with ⟨u, rfl, e⟩ | ⟨u, hu, rfl, e⟩
  · rw [e]; exact Digits_nat u (by omega) w
  · rw [e]
    have C := Lib.hid (Digits_nat u (by omega))
    have h2 : -(u : Int) < 0 := by omega
    have e1 : IntKind.i64.wrap (u : Int) = u := Go.IntWalk.i64_in _ ⟨by omega, by omega⟩
    have hl := dec_le (k := 19) (u := u) (by decide) (by omega)
    generalize Lib.decDigits u = x at *
    have h3 : ¬ 9223372036854775807 < 1 + x.length := by omega
    have h4 : 1 + x.length ≤ 9223372036854775807 := by omega
    clear e hl
    go_enter Tryd.func21, Tryd.ntmps21
    go_wp2_with (go_at_call 21; refine (C.out _).mono ?_; rintro e w1 ⟨rfl, hb1⟩)
    go_ret
    exact ⟨by rw [show (45 :: x) = [45] ++ x from rfl, ← ba_app]; rfl, (by repeat' (first | exact Below.refl _ _ | assumption | apply bDrewN | apply bDrew | apply bAlloc | (refine bSet ?_ ?_ _) | (refine bStep ?_ (by assumption)) | omega | (simp <;> omega)))⟩
set_option maxHeartbeats 2000000 in
set_option maxRecDepth 20000 in
theorem Number_any (s : ByteArray) (w : World) : Calls Tryd.prog 24 #[.string s] w fun e w' => (∃ v, e = .returned (.tuple #[.int .i64 v, .bool (isN s.data.toList)]) ∧ (isN s.data.toList = true → v = sv s.data.toList)) ∧ Below w.heap.size w w' := by
  have hsz : s.data.toList.length = s.size := (Lib.size_eq s).symm
  by_cases h14 : s.size ≤ 14
  · have h1 : (s.size : Int) ≤ 14 := by omega
    have hlt : Hid (∀ k, nvF (s.data.toList.take k) < 100000000000000) := fun k => by
      have h2 := nvF_lt (s.data.toList.take k)
      refine Nat.lt_of_lt_of_le h2 ?_
      exact Nat.le_trans (Nat.pow_le_pow_right (by decide) (by rw [List.length_take]; omega)) (show 10 ^ 14 ≤ 100000000000000 by decide)
    go_enter Tryd.func24, Tryd.ntmps24
    go_wp2_with fail
    go_loopw [4, 5] (fun n i wr => ∃ k : Nat, k ≤ s.size ∧ i = .int .i64 k ∧ n = .int .i64 (nvF (s.data.toList.take k) : Nat) ∧ Below w.heap.size w wr) (fun _ i _ => s.size - (intOf i).toNat)
    case atStart => exact ⟨0, by omega, rfl, by simp [nvF], (by repeat' (first | exact Below.refl _ _ | assumption | apply bDrewN | apply bDrew | apply bAlloc | (refine bSet ?_ ?_ _) | (refine bStep ?_ (by assumption)) | omega | (simp <;> omega)))⟩
    case round =>
      obtain ⟨k, hk, rfl, rfl, kB⟩ := hrel
      by_cases hk2 : k < s.size
      · have hk3 : (k : Int) < s.size := by omega
        have hkl : k < s.data.toList.length := by omega
        have hget : s.data.toList[k]'hkl = s[k] := Array.getElem_toList _
        have hnx : nvF (s.data.toList.take (k + 1)) = if 48 ≤ s[k].toNat ∧ s[k].toNat ≤ 57 then 10 * nvF (s.data.toList.take k) + (s[k].toNat - 48) else nvF (s.data.toList.take k) := by
          rw [List.take_succ_eq_append_getElem hkl, nvF_snoc, hget]
        have hl0 := hlt.out k
        have hl1 := hlt.out (k + 1)
        clear hget
        have hc : s[k].toNat < 256 := s[k].toNat_lt
        generalize hm1 : nvF (s.data.toList.take (k + 1)) = m1 at *
        generalize hm0 : nvF (s.data.toList.take k) = m at *
        have HM1 := Lib.hid hm1
        clear hm1 hm0
        by_cases hd : 48 ≤ s[k].toNat ∧ s[k].toNat ≤ 57
        · rw [if_pos hd] at hnx
          have hd1 : (48 : Int) ≤ (s[k].toNat : Int) := by omega
          have hd2 : (s[k].toNat : Int) ≤ 57 := by omega
          have HN := Lib.hid hnx
          have HD := Lib.hid hd
          clear hnx hd
          go_wp2_with fail
          refine ⟨⟨k + 1, by omega, by push_cast; rfl, ?_, kB⟩, by simp [intOf]; omega⟩
          rw [HM1.out, HN.out]
          have := HD.out
          congr 1
          omega
        · rw [if_neg hd] at hnx
          have HN := Lib.hid hnx
          clear hnx
          have hd1 : (s[k].toNat : Int) < 48 ∨ (48 ≤ (s[k].toNat : Int) ∧ 57 < (s[k].toNat : Int)) := by omega
          clear hd
          rcases hd1 with hd1 | ⟨hd1, hd2⟩
          all_goals
            go_wp2_with fail
            refine ⟨⟨k + 1, by omega, by push_cast; rfl, ?_, kB⟩, by simp [intOf]; omega⟩
            rw [HM1.out, HN.out]
      · obtain rfl : k = s.size := by omega
        have e : s.data.toList.take s.size = s.data.toList := List.take_of_length_le (by omega)
        rw [e]
        have hl0 := hlt.out s.size
        rw [e] at hl0
        clear e hlt hk hk2
        have hN : isN s.data.toList = decide (Lib.itoa (sv s.data.toList) = s.data.toList) := by unfold isN; rw [decide_eq_true (show s.data.toList.length ≤ 14 by omega), Bool.true_and]
        have hbd : -100000000000000 < sv s.data.toList ∧ sv s.data.toList < 100000000000000 := by
          unfold sv; split <;> omega
        have CD := Lib.hid (fun W => Digits_any (sv s.data.toList) (by omega) (by omega) W)
        clear hbd
        cases hl : s.data.toList with
        | nil =>
          obtain rfl : s = ⟨#[]⟩ := ba_inj (by rw [hl])
          have e1 : sv (ByteArray.mk #[]).data.toList = 0 := by rfl
          have e2 : nvF [] = 0 := by rfl
          have e3 : decide (Lib.itoa (sv []) = []) = false := decide_eq_false (itoa_ne' _)
          rw [show nvF (ByteArray.mk #[]).data.toList = 0 from rfl]
          have HN := Lib.hid (show isN (ByteArray.mk #[]).data.toList = false from hN.trans e3)
          rw [e1] at CD
          have e4 : (ByteArray.mk (Lib.itoa 0).toArray) = ⟨#[48]⟩ := by rw [show Lib.itoa 0 = [48] by rw [show (0 : Int) = ((0 : Nat) : Int) from rfl, Lib.itoa_nonneg, Lib.decDigits_one (by decide)]; rfl]
          rw [e4] at CD
          clear e1 e2 e3 e4 hl hl0 hsz h14 h1 hN
          go_wp2_with (go_at_call 21; with_reducible refine (CD.out _).mono ?_; rintro e w1 ⟨rfl, hb1⟩)
          exact bodyPost_ret (v := .tuple #[.int .i64 0, .bool false]) (by simp only [results, Tryd.results24]; go_simp) rfl ⟨⟨0, by rw [HN.out], fun h => by rw [HN.out] at h; cases h⟩, (by repeat' (first | exact Below.refl _ _ | assumption | apply bDrewN | apply bDrew | apply bAlloc | (refine bSet ?_ ?_ _) | (refine bStep ?_ (by assumption)) | omega | (simp <;> omega)))⟩
        | cons c r =>
          have hz : 0 < s.size := by rw [← hsz, hl]; simp
          have h0 : s[0]'hz = c := by
            have q : s.data.toList[0]'(by rw [hl]; simp) = s[0]'hz := Array.getElem_toList _
            rw [← q]
            simp [hl]
          have hz2 : 0 < (s.size : Int) := by omega
          have hn1 : ¬ s.toList = [] := by rw [Lib.toList_data, hl]; simp
          have hn3 : s.toList.isEmpty = false := by rw [Lib.toList_data, hl]; rfl
          have hn2 : ¬ s = ⟨#[]⟩ := fun q => by rw [q] at hl; cases hl
          have hsv : (c.toNat = 45 ∧ sv (c :: r) = -(nvF (c :: r) : Int)) ∨ (c.toNat ≠ 45 ∧ sv (c :: r) = nvF (c :: r)) := by
            unfold sv
            by_cases hc : c = 45
            · subst hc; exact .inl ⟨rfl, by simp⟩
            · exact .inr ⟨fun q => hc (UInt8.toNat_inj.1 q), by simp [hc]⟩
          rw [hl] at CD hl0 hN
          generalize hm : nvF (c :: r) = m at *
          have hS : Hid (∀ v, sv (c :: r) = v → sv (c :: r) = v) := fun _ h => h
          by_cases he : Lib.itoa (sv (c :: r)) = c :: r
          · have HN := Lib.hid (show isN s.data.toList = true from by rw [hl, hN, decide_eq_true he])
            have es : (ByteArray.mk (c :: r).toArray) = s := ba_inj (by rw [hl])
            rw [he, es] at CD
            rcases hsv with ⟨hc, hv⟩ | ⟨hc, hv⟩
            · have hc2 : ((s[0]'hz).toNat : Int) = 45 := by rw [h0]; omega
              rw [hv] at CD
              have HV := Lib.hid (show -(m : Int) = sv s.data.toList from by rw [hl]; exact hv.symm)
              clear hl es he hm hv hc h0 hS hN
              go_wp2_with (go_at_call 21; with_reducible refine (CD.out _).mono ?_; rintro e w1 ⟨rfl, hb1⟩)
              exact bodyPost_ret (v := .tuple #[.int .i64 (-(m : Int)), .bool true]) (by simp only [results, Tryd.results24]; go_simp) rfl ⟨⟨_, by rw [HN.out], fun _ => HV.out⟩, (by repeat' (first | exact Below.refl _ _ | assumption | apply bDrewN | apply bDrew | apply bAlloc | (refine bSet ?_ ?_ _) | (refine bStep ?_ (by assumption)) | omega | (simp <;> omega)))⟩
            · have hc2 : ¬ ((s[0]'hz).toNat : Int) = 45 := by rw [h0]; omega
              have hc3 : (((s[0]'hz).toNat : Int) == 45) = false := beq_false_of_ne hc2
              rw [hv] at CD
              have HV := Lib.hid (show (m : Int) = sv s.data.toList from by rw [hl]; exact hv.symm)
              clear hl es he hm hv hc h0 hS hN
              go_wp2_with (go_at_call 21; with_reducible refine (CD.out _).mono ?_; rintro e w1 ⟨rfl, hb1⟩)
              exact bodyPost_ret (v := .tuple #[.int .i64 (m : Int), .bool true]) (by simp only [results, Tryd.results24]; go_simp) rfl ⟨⟨_, by rw [HN.out], fun _ => HV.out⟩, (by repeat' (first | exact Below.refl _ _ | assumption | apply bDrewN | apply bDrew | apply bAlloc | (refine bSet ?_ ?_ _) | (refine bStep ?_ (by assumption)) | omega | (simp <;> omega)))⟩
          · have HN := Lib.hid (show isN s.data.toList = false from by rw [hl, hN, decide_eq_false he])
            have hne : ¬ (ByteArray.mk (Lib.itoa (sv (c :: r))).toArray).toList = s.toList := ba_nl fun e => he (by have q := congrArg (fun b : ByteArray => b.data.toList) e; simpa [hl] using q)
            generalize (ByteArray.mk (Lib.itoa (sv (c :: r))).toArray) = t at *
            rcases hsv with ⟨hc, hv⟩ | ⟨hc, hv⟩
            · have hc2 : ((s[0]'hz).toNat : Int) = 45 := by rw [h0]; omega
              rw [hv] at CD
              clear hl he hm hv hc h0 hS hN
              go_wp2_with (go_at_call 21; with_reducible refine (CD.out _).mono ?_; rintro e w1 ⟨rfl, hb1⟩)
              exact bodyPost_ret (v := .tuple #[.int .i64 (-(m : Int)), .bool false]) (by simp only [results, Tryd.results24]; go_simp) rfl ⟨⟨_, by rw [HN.out], fun h => by rw [HN.out] at h; cases h⟩, (by repeat' (first | exact Below.refl _ _ | assumption | apply bDrewN | apply bDrew | apply bAlloc | (refine bSet ?_ ?_ _) | (refine bStep ?_ (by assumption)) | omega | (simp <;> omega)))⟩
            · have hc2 : ¬ ((s[0]'hz).toNat : Int) = 45 := by rw [h0]; omega
              have hc3 : (((s[0]'hz).toNat : Int) == 45) = false := beq_false_of_ne hc2
              rw [hv] at CD
              clear hl he hm hv hc h0 hS hN
              go_wp2_with (go_at_call 21; with_reducible refine (CD.out _).mono ?_; rintro e w1 ⟨rfl, hb1⟩)
              exact bodyPost_ret (v := .tuple #[.int .i64 (m : Int), .bool false]) (by simp only [results, Tryd.results24]; go_simp) rfl ⟨⟨_, by rw [HN.out], fun h => by rw [HN.out] at h; cases h⟩, (by repeat' (first | exact Below.refl _ _ | assumption | apply bDrewN | apply bDrew | apply bAlloc | (refine bSet ?_ ?_ _) | (refine bStep ?_ (by assumption)) | omega | (simp <;> omega)))⟩
  · have h1 : 14 < (s.size : Int) := by omega
    have hn : isN s.data.toList = false := by unfold isN; rw [hsz, decide_eq_false h14]; rfl
    rw [hn]
    clear h14 hn hsz
    go_enter Tryd.func24, Tryd.ntmps24
    go_wp2_with fail
    exact bodyPost_ret (v := .tuple #[.int .i64 0, .bool false]) (by simp only [results, Tryd.results24]; go_simp) rfl ⟨⟨0, rfl, fun h => by cases h⟩, (by repeat' (first | exact Below.refl _ _ | assumption | apply bDrewN | apply bDrew | apply bAlloc | (refine bSet ?_ ?_ _) | (refine bStep ?_ (by assumption)) | omega | (simp <;> omega)))⟩
end Go.Proofs.YtolnbblikfpnbaaDoor
