/-
  Text of a valid event is the text of the plain law.
-/
import Derived.Test.YtdelgbdiofkndaaGreatDoorG12Events
import Derived.Lib.ItoaLen
import Derived.Test.YtdelgbdiofkndaaGreatDoorG11Events
set_option linter.unusedSimpArgs false
set_option linter.unusedVariables false
namespace Go.Proofs.YtdelgbdiofkndaaGreatDoor
open Sx Go.RowKit
theorem nameB_sp {v : ByteArray} (h : nameB v = true) : Sp v.data.toList ∧ v.data.toList ≠ [] := by
  unfold nameB at h
  rw [Bool.and_eq_true] at h
  obtain ⟨h1, h2⟩ := h
  have h3 := of_decide_eq_true h1
  refine ⟨fun c hc => ?_, fun e => ?_⟩
  · have := List.all_eq_true.1 h2 c hc
    unfold okc at this
    have := of_decide_eq_true this
    omega
  · rw [Lib.size_eq, e] at h3
    simp at h3
theorem modB_sp {s : ByteArray} (h : modB s = true) : Sp s.data.toList ∧ s.data.toList ≠ [] := by
  unfold modB at h
  rw [Bool.and_eq_true] at h
  obtain ⟨h1, h2⟩ := h
  have hc : 0 ≤ colon s := by
    by_cases hc : 0 ≤ colon s
    · exact hc
    · unfold cutS at h1; rw [if_neg hc] at h1; cases h1
  have e : cutS s = (s.extract 0 (colon s).toNat, s.extract ((colon s).toNat + 1) s.size, true) := by unfold cutS; rw [if_pos hc]
  rw [e] at h2
  obtain ⟨i, hi⟩ := Int.eq_ofNat_of_zero_le hc
  have hat := (Lib.indexByte_some (l := s.data.toList) (c := 58) (o := i) hi).1
  rw [hi] at h2
  simp only [Int.toNat_natCast] at h2
  have ea : (s.extract 0 i).data.toList = s.data.toList.take i := by rw [Lib.extract_eq]; simp
  have eb : (s.extract (i + 1) s.size).data.toList = s.data.toList.drop (i + 1) := by
    rw [Lib.extract_eq]
    simp only [List.toList_toArray]
    exact List.take_of_length_le (by rw [List.length_drop, ← Lib.size_eq]; exact Nat.le_refl _)
  cases hn : numS (s.extract (i + 1) s.size) with
  | none => rw [hn] at h2; cases h2
  | some v =>
    rw [hn] at h2
    simp only [Bool.and_eq_true, decide_eq_true_eq] at h2
    obtain ⟨⟨⟨v1, v2⟩, h3⟩, h4⟩ := h2
    have h5 := (nameB_sp h4).1
    rw [ea] at h5
    have h6 : Lib.itoa v = s.data.toList.drop (i + 1) := by
      have := eq_of_beq h3
      rw [this, Lib.toList_data, eb]
    have hil : i < s.data.toList.length := (List.getElem?_eq_some_iff.1 hat).1
    have hat2 : s.data.toList[i] = 58 := (List.getElem?_eq_some_iff.1 hat).2
    have hs : s.data.toList = s.data.toList.take i ++ 58 :: s.data.toList.drop (i + 1) := by
      conv => lhs; rw [← List.take_append_drop i s.data.toList]
      rw [List.drop_eq_getElem_cons hil, hat2]
    refine ⟨fun c hc => ?_, fun e => by rw [e] at hil; simp at hil⟩
    rw [hs] at hc
    rcases List.mem_append.1 hc with hc | hc
    · exact h5 c hc
    · rcases List.mem_cons.1 hc with rfl | hc
      · decide
      · rw [← h6] at hc; exact itoa_sp v1 c hc
theorem chkB_no {least fa fb t a b : Int} {p q : Bool} (h : chkB least fa fb t a b p q = false) : (0 ≤ t ∧ t ≤ 1099511627776) ∧ (least ≤ a ∧ a ≤ fa) ∧ (0 ≤ b ∧ b ≤ fb) ∧ p = true ∧ q = true := by
  unfold chkB at h
  by_cases h1 : t ≥ 0
  · by_cases h2 : t ≤ 1099511627776
    · by_cases h3 : a < least
      · simp [h1, h2, h3] at h
      · by_cases h4 : a > fa
        · simp [h1, h2, h3, h4] at h
        · by_cases h5 : b < 0
          · simp [h1, h2, h3, h4, h5] at h
          · by_cases h6 : b > fb
            · simp [h1, h2, h3, h4, h5, h6] at h
            · cases p <;> cases q <;> simp [h1, h2, h3, h4, h5, h6] at h
              exact ⟨⟨h1, h2⟩, ⟨by omega, by omega⟩, ⟨by omega, by omega⟩, rfl, rfl⟩
    · simp [h1, h2] at h
  · simp [h1] at h
def evL (k t a b : Int) (nm ot : ByteArray) : Ev := ⟨k, t, a, b, nm.data.toList, ot.data.toList⟩
theorem emp_nil {v : ByteArray} (h : (v.toList == []) = true) : v.data.toList = [] := by
  rw [Lib.toList_data] at h
  exact eq_of_beq h
theorem sp_nil : Sp [] := fun c hc => by cases hc
theorem okE_ev {k t a b : Int} {nm ot : ByteArray} (h : okE k t a b nm ot = true) : EvOk (evL k t a b nm ot) ∧ nm.size ≤ 1000000 ∧ ot.size ≤ 1000000 := by
  unfold okE at h
  rw [Bool.and_eq_true] at h
  obtain ⟨h1, h2⟩ := h
  obtain ⟨k1, k2, k3, k4⟩ := of_decide_eq_true h1
  have h3 : chkE k t a b nm ot = false := by simpa using h2
  refine ⟨?_, k3, k4⟩
  have hc : k = 1 ∨ k = 2 ∨ k = 3 ∨ k = 4 ∨ k = 5 ∨ k = 6 ∨ k = 7 ∨ k = 8 ∨ k = 9 := by omega
  unfold evL
  rcases hc with rfl | rfl | rfl | rfl | rfl | rfl | rfl | rfl | rfl
  · obtain ⟨q1, q2, q3, q4, q5⟩ := chkB_no h3
    obtain ⟨n1, n2⟩ := nameB_sp q4; have n3 := emp_nil q5; rw [n3]; refine ⟨?_, q1, ?_, ?_, ?_, ?_, n1, sp_nil, ?_, ?_, ?_, ?_⟩
    all_goals dsimp only
    all_goals first | (constructor <;> omega) | (intro h; omega) | (intro _; assumption) | (intro _; rfl)
  · obtain ⟨q1, q2, q3, q4, q5⟩ := chkB_no h3
    have n1 := emp_nil q4; have n3 := emp_nil q5; rw [n1, n3]; refine ⟨?_, q1, ?_, ?_, ?_, ?_, sp_nil, sp_nil, ?_, ?_, ?_, ?_⟩
    all_goals dsimp only
    all_goals first | (constructor <;> omega) | (intro h; omega) | (intro _; assumption) | (intro _; rfl)
  · obtain ⟨q1, q2, q3, q4, q5⟩ := chkB_no h3
    have n1 := emp_nil q4; have n3 := emp_nil q5; rw [n1, n3]; refine ⟨?_, q1, ?_, ?_, ?_, ?_, sp_nil, sp_nil, ?_, ?_, ?_, ?_⟩
    all_goals dsimp only
    all_goals first | (constructor <;> omega) | (intro h; omega) | (intro _; assumption) | (intro _; rfl)
  · obtain ⟨q1, q2, q3, q4, q5⟩ := chkB_no h3
    have n1 := emp_nil q4; have n3 := emp_nil q5; rw [n1, n3]; refine ⟨?_, q1, ?_, ?_, ?_, ?_, sp_nil, sp_nil, ?_, ?_, ?_, ?_⟩
    all_goals dsimp only
    all_goals first | (constructor <;> omega) | (intro h; omega) | (intro _; assumption) | (intro _; rfl)
  · obtain ⟨q1, q2, q3, q4, q5⟩ := chkB_no h3
    obtain ⟨n1, n2⟩ := modB_sp q4; obtain ⟨n3, n4⟩ := nameB_sp q5; refine ⟨?_, q1, ?_, ?_, ?_, ?_, n1, n3, ?_, ?_, ?_, ?_⟩
    all_goals dsimp only
    all_goals first | (constructor <;> omega) | (intro h; omega) | (intro _; assumption) | (intro _; rfl)
  · obtain ⟨q1, q2, q3, q4, q5⟩ := chkB_no h3
    obtain ⟨n1, n2⟩ := modB_sp q4; obtain ⟨n3, n4⟩ := nameB_sp q5; refine ⟨?_, q1, ?_, ?_, ?_, ?_, n1, n3, ?_, ?_, ?_, ?_⟩
    all_goals dsimp only
    all_goals first | (constructor <;> omega) | (intro h; omega) | (intro _; assumption) | (intro _; rfl)
  · obtain ⟨q1, q2, q3, q4, q5⟩ := chkB_no h3
    obtain ⟨n1, n2⟩ := nameB_sp q4; have n3 := emp_nil q5; rw [n3]; refine ⟨?_, q1, ?_, ?_, ?_, ?_, n1, sp_nil, ?_, ?_, ?_, ?_⟩
    all_goals dsimp only
    all_goals first | (constructor <;> omega) | (intro h; omega) | (intro _; assumption) | (intro _; rfl)
  · obtain ⟨q1, q2, q3, q4, q5⟩ := chkB_no h3
    obtain ⟨n1, n2⟩ := nameB_sp q4; have n3 := emp_nil q5; rw [n3]; refine ⟨?_, q1, ?_, ?_, ?_, ?_, n1, sp_nil, ?_, ?_, ?_, ?_⟩
    all_goals dsimp only
    all_goals first | (constructor <;> omega) | (intro h; omega) | (intro _; assumption) | (intro _; rfl)
  · obtain ⟨q1, q2, q3, q4, q5⟩ := chkB_no h3
    have n1 := emp_nil q4; have n3 := emp_nil q5; rw [n1, n3]; refine ⟨?_, q1, ?_, ?_, ?_, ?_, sp_nil, sp_nil, ?_, ?_, ?_, ?_⟩
    all_goals dsimp only
    all_goals first | (constructor <;> omega) | (intro h; omega) | (intro _; assumption) | (intro _; rfl)
end Go.Proofs.YtdelgbdiofkndaaGreatDoor

/-
  Text of a valid event.
-/
set_option linter.unusedSimpArgs false
set_option linter.unusedVariables false
namespace Go.Proofs.YtdelgbdiofkndaaGreatDoor
open Sx Go.RowKit
theorem ba_nil {v : ByteArray} (h : v.data.toList = []) : v = ⟨#[]⟩ := by
  obtain ⟨⟨l⟩⟩ := v
  have h' : l = [] := h
  rw [h']
theorem ba_cons {v : ByteArray} (h : v.data.toList ≠ []) : ∃ x l, v = ⟨(x :: l).toArray⟩ := by
  obtain ⟨⟨l⟩⟩ := v
  cases l with
  | nil => exact absurd rfl h
  | cons x l => exact ⟨x, l, rfl⟩
theorem tail_len : ∀ {l : List (List UInt8)}, (∀ z ∈ l, z.length ≤ 1000000) → (Lib.joinTail [32] l).length ≤ l.length * 1000001
  | [], _ => by simp [Lib.joinTail]
  | x :: l, h => by
    rw [tail_cons]
    have h1 := h x (List.mem_cons_self ..)
    have h2 := tail_len (fun z hz => h z (List.mem_cons_of_mem _ hz))
    simp only [List.length_cons, List.length_append]
    omega
theorem jnD_ok {x : List UInt8} {l : List (List UInt8)} (h : ∀ z ∈ x :: l, z.length ≤ 1000000) (hl : l.length ≤ 10) : jnD (x :: l) = true := by
  unfold jnD
  refine decide_eq_true ⟨by simp only [List.length_cons]; omega, ?_⟩
  rw [Lib.join_cons, List.length_append]
  have h1 := h x (List.mem_cons_self ..)
  have h2 := tail_len (fun z hz => h z (List.mem_cons_of_mem _ hz))
  omega
theorem it_len {n : Int} (h0 : 0 ≤ n) (h1 : n ≤ 1099511627776) : (itH n :: itT n).length ≤ 1000000 := by
  rw [it_is]
  exact Nat.le_trans (Lib.itoa_length_le n (by omega) (by omega)) (by decide)
theorem fmD_ok {n : Int} (h0 : 0 ≤ n) (h1 : n ≤ 1099511627776) : fmD n = true := decide_eq_true ⟨by omega, by omega⟩
theorem word_len (k : Int) : (word k).length ≤ 1000000 := by
  unfold word
  repeat' split
  all_goals decide
theorem Text_ok (k t a b : Int) (nm ot : ByteArray) (w : World) (hG : Glob0 w) (h : okE k t a b nm ot = true) :
    Calls Tryz.prog 8 #[.agg #[.int .i64 k, .int .i64 t, .int .i64 a, .int .i64 b, .string nm, .string ot]] w fun e w' => e = .returned (.tuple #[.string ⟨(textE (evL k t a b nm ot)).toArray⟩, .int .i64 0]) ∧ Below w.heap.size w w' := by
  obtain ⟨he, hn, ho⟩ := okE_ev h
  obtain ⟨q1, q2, q3, q4, -, -, -, -, n0, n1, o0, o1⟩ := he
  unfold evL at q1 q2 q3 q4 n0 n1 o0 o1 ⊢
  dsimp only at q1 q2 q3 q4 n0 n1 o0 o1
  have hc : k = 1 ∨ k = 2 ∨ k = 3 ∨ k = 4 ∨ k = 5 ∨ k = 6 ∨ k = 7 ∨ k = 8 ∨ k = 9 := by omega
  rcases hc with rfl | rfl | rfl | rfl | rfl | rfl | rfl | rfl | rfl
  · obtain ⟨x, l, rfl⟩ := ba_cons (n1 (by decide))
    obtain rfl := ba_nil (o0 (by decide))
    have hj : ∀ z ∈ [word 1, itH t :: itT t, itH a :: itT a, itH b :: itT b, x :: l], z.length ≤ 1000000 := by
      intro z hz
      simp only [List.mem_cons, List.not_mem_nil, or_false] at hz
      rcases hz with rfl | rfl | rfl | rfl | rfl
      · exact word_len _
      · exact it_len q2.1 q2.2
      · exact it_len q3.1 q3.2
      · exact it_len q4.1 q4.2
      · exact (by rw [Lib.size_eq] at hn; exact hn)
    have hx := tx_any (tx_eval1 t a b x l) (fun z hz => by
      simp only [List.mem_cons, List.not_mem_nil, or_false] at hz
      rcases hz with rfl | rfl | rfl | rfl | rfl
      · exact h
      · exact fmD_ok q2.1 q2.2
      · exact fmD_ok q3.1 q3.2
      · exact fmD_ok q4.1 q4.2
      · exact jnD_ok hj (by simp)) w hG
    have ht : textE ⟨1, t, a, b, (ByteArray.mk (x :: l).toArray).data.toList, (ByteArray.mk #[]).data.toList⟩ = Lib.join [word 1, itH t :: itT t, itH a :: itT a, itH b :: itT b, x :: l] [32] := by
      unfold textE parts
      simp [it_is]
    rw [ht]
    exact hx
  · obtain rfl := ba_nil (n0 (by decide))
    obtain rfl := ba_nil (o0 (by decide))
    have hj : ∀ z ∈ [word 2, itH t :: itT t, itH a :: itT a, itH b :: itT b], z.length ≤ 1000000 := by
      intro z hz
      simp only [List.mem_cons, List.not_mem_nil, or_false] at hz
      rcases hz with rfl | rfl | rfl | rfl
      · exact word_len _
      · exact it_len q2.1 q2.2
      · exact it_len q3.1 q3.2
      · exact it_len q4.1 q4.2
    have hx := tx_any (tx_eval2 t a b) (fun z hz => by
      simp only [List.mem_cons, List.not_mem_nil, or_false] at hz
      rcases hz with rfl | rfl | rfl | rfl | rfl
      · exact h
      · exact fmD_ok q2.1 q2.2
      · exact fmD_ok q3.1 q3.2
      · exact fmD_ok q4.1 q4.2
      · exact jnD_ok hj (by simp)) w hG
    have ht : textE ⟨2, t, a, b, (ByteArray.mk #[]).data.toList, (ByteArray.mk #[]).data.toList⟩ = Lib.join [word 2, itH t :: itT t, itH a :: itT a, itH b :: itT b] [32] := by
      unfold textE parts
      simp [it_is]
    rw [ht]
    exact hx
  · obtain rfl := ba_nil (n0 (by decide))
    obtain rfl := ba_nil (o0 (by decide))
    have hj : ∀ z ∈ [word 3, itH t :: itT t, itH a :: itT a], z.length ≤ 1000000 := by
      intro z hz
      simp only [List.mem_cons, List.not_mem_nil, or_false] at hz
      rcases hz with rfl | rfl | rfl
      · exact word_len _
      · exact it_len q2.1 q2.2
      · exact it_len q3.1 q3.2
    have hx := tx_any (tx_eval3 t a b) (fun z hz => by
      simp only [List.mem_cons, List.not_mem_nil, or_false] at hz
      rcases hz with rfl | rfl | rfl | rfl
      · exact h
      · exact fmD_ok q2.1 q2.2
      · exact fmD_ok q3.1 q3.2
      · exact jnD_ok hj (by simp)) w hG
    have ht : textE ⟨3, t, a, b, (ByteArray.mk #[]).data.toList, (ByteArray.mk #[]).data.toList⟩ = Lib.join [word 3, itH t :: itT t, itH a :: itT a] [32] := by
      unfold textE parts
      simp [it_is]
    rw [ht]
    exact hx
  · obtain rfl := ba_nil (n0 (by decide))
    obtain rfl := ba_nil (o0 (by decide))
    have hj : ∀ z ∈ [word 4, itH t :: itT t, itH a :: itT a], z.length ≤ 1000000 := by
      intro z hz
      simp only [List.mem_cons, List.not_mem_nil, or_false] at hz
      rcases hz with rfl | rfl | rfl
      · exact word_len _
      · exact it_len q2.1 q2.2
      · exact it_len q3.1 q3.2
    have hx := tx_any (tx_eval4 t a b) (fun z hz => by
      simp only [List.mem_cons, List.not_mem_nil, or_false] at hz
      rcases hz with rfl | rfl | rfl | rfl
      · exact h
      · exact fmD_ok q2.1 q2.2
      · exact fmD_ok q3.1 q3.2
      · exact jnD_ok hj (by simp)) w hG
    have ht : textE ⟨4, t, a, b, (ByteArray.mk #[]).data.toList, (ByteArray.mk #[]).data.toList⟩ = Lib.join [word 4, itH t :: itT t, itH a :: itT a] [32] := by
      unfold textE parts
      simp [it_is]
    rw [ht]
    exact hx
  · obtain ⟨x, l, rfl⟩ := ba_cons (n1 (by decide))
    obtain ⟨y, l2, rfl⟩ := ba_cons (o1 (by decide))
    have hj : ∀ z ∈ [word 5, itH t :: itT t, x :: l, y :: l2], z.length ≤ 1000000 := by
      intro z hz
      simp only [List.mem_cons, List.not_mem_nil, or_false] at hz
      rcases hz with rfl | rfl | rfl | rfl
      · exact word_len _
      · exact it_len q2.1 q2.2
      · exact (by rw [Lib.size_eq] at hn; exact hn)
      · exact (by rw [Lib.size_eq] at ho; exact ho)
    have hx := tx_any (tx_eval5 t a b x l y l2) (fun z hz => by
      simp only [List.mem_cons, List.not_mem_nil, or_false] at hz
      rcases hz with rfl | rfl | rfl
      · exact h
      · exact fmD_ok q2.1 q2.2
      · exact jnD_ok hj (by simp)) w hG
    have ht : textE ⟨5, t, a, b, (ByteArray.mk (x :: l).toArray).data.toList, (ByteArray.mk (y :: l2).toArray).data.toList⟩ = Lib.join [word 5, itH t :: itT t, x :: l, y :: l2] [32] := by
      unfold textE parts
      simp [it_is]
    rw [ht]
    exact hx
  · obtain ⟨x, l, rfl⟩ := ba_cons (n1 (by decide))
    obtain ⟨y, l2, rfl⟩ := ba_cons (o1 (by decide))
    have hj : ∀ z ∈ [word 6, itH t :: itT t, x :: l, y :: l2], z.length ≤ 1000000 := by
      intro z hz
      simp only [List.mem_cons, List.not_mem_nil, or_false] at hz
      rcases hz with rfl | rfl | rfl | rfl
      · exact word_len _
      · exact it_len q2.1 q2.2
      · exact (by rw [Lib.size_eq] at hn; exact hn)
      · exact (by rw [Lib.size_eq] at ho; exact ho)
    have hx := tx_any (tx_eval6 t a b x l y l2) (fun z hz => by
      simp only [List.mem_cons, List.not_mem_nil, or_false] at hz
      rcases hz with rfl | rfl | rfl
      · exact h
      · exact fmD_ok q2.1 q2.2
      · exact jnD_ok hj (by simp)) w hG
    have ht : textE ⟨6, t, a, b, (ByteArray.mk (x :: l).toArray).data.toList, (ByteArray.mk (y :: l2).toArray).data.toList⟩ = Lib.join [word 6, itH t :: itT t, x :: l, y :: l2] [32] := by
      unfold textE parts
      simp [it_is]
    rw [ht]
    exact hx
  · obtain ⟨x, l, rfl⟩ := ba_cons (n1 (by decide))
    obtain rfl := ba_nil (o0 (by decide))
    have hj : ∀ z ∈ [word 7, itH t :: itT t, x :: l], z.length ≤ 1000000 := by
      intro z hz
      simp only [List.mem_cons, List.not_mem_nil, or_false] at hz
      rcases hz with rfl | rfl | rfl
      · exact word_len _
      · exact it_len q2.1 q2.2
      · exact (by rw [Lib.size_eq] at hn; exact hn)
    have hx := tx_any (tx_eval7 t a b x l) (fun z hz => by
      simp only [List.mem_cons, List.not_mem_nil, or_false] at hz
      rcases hz with rfl | rfl | rfl
      · exact h
      · exact fmD_ok q2.1 q2.2
      · exact jnD_ok hj (by simp)) w hG
    have ht : textE ⟨7, t, a, b, (ByteArray.mk (x :: l).toArray).data.toList, (ByteArray.mk #[]).data.toList⟩ = Lib.join [word 7, itH t :: itT t, x :: l] [32] := by
      unfold textE parts
      simp [it_is]
    rw [ht]
    exact hx
  · obtain ⟨x, l, rfl⟩ := ba_cons (n1 (by decide))
    obtain rfl := ba_nil (o0 (by decide))
    have hj : ∀ z ∈ [word 8, itH t :: itT t, x :: l], z.length ≤ 1000000 := by
      intro z hz
      simp only [List.mem_cons, List.not_mem_nil, or_false] at hz
      rcases hz with rfl | rfl | rfl
      · exact word_len _
      · exact it_len q2.1 q2.2
      · exact (by rw [Lib.size_eq] at hn; exact hn)
    have hx := tx_any (tx_eval8 t a b x l) (fun z hz => by
      simp only [List.mem_cons, List.not_mem_nil, or_false] at hz
      rcases hz with rfl | rfl | rfl
      · exact h
      · exact fmD_ok q2.1 q2.2
      · exact jnD_ok hj (by simp)) w hG
    have ht : textE ⟨8, t, a, b, (ByteArray.mk (x :: l).toArray).data.toList, (ByteArray.mk #[]).data.toList⟩ = Lib.join [word 8, itH t :: itT t, x :: l] [32] := by
      unfold textE parts
      simp [it_is]
    rw [ht]
    exact hx
  · obtain rfl := ba_nil (n0 (by decide))
    obtain rfl := ba_nil (o0 (by decide))
    have hj : ∀ z ∈ [word 9, itH t :: itT t], z.length ≤ 1000000 := by
      intro z hz
      simp only [List.mem_cons, List.not_mem_nil, or_false] at hz
      rcases hz with rfl | rfl
      · exact word_len _
      · exact it_len q2.1 q2.2
    have hx := tx_any (tx_eval9 t a b) (fun z hz => by
      simp only [List.mem_cons, List.not_mem_nil, or_false] at hz
      rcases hz with rfl | rfl | rfl
      · exact h
      · exact fmD_ok q2.1 q2.2
      · exact jnD_ok hj (by simp)) w hG
    have ht : textE ⟨9, t, a, b, (ByteArray.mk #[]).data.toList, (ByteArray.mk #[]).data.toList⟩ = Lib.join [word 9, itH t :: itT t] [32] := by
      unfold textE parts
      simp [it_is]
    rw [ht]
    exact hx
end Go.Proofs.YtdelgbdiofkndaaGreatDoor

/-
  Events that Check refuses.
-/
set_option linter.unusedSimpArgs false
set_option linter.unusedVariables false
namespace Go.Proofs.YtdelgbdiofkndaaGreatDoor
open Sx Go.RowKit
/-- The first way of a test, where it is a leaf. -/
def brL : Tree FLeaf → Option (Bool × Sv)
  | .br b (.leaf y) _ => some (b, y.1)
  | _ => none
theorem brL_at {T : Tree FLeaf} {b : Bool} {v : Sv} (h : brL T = some (b, v)) (hb : b = true) : ∃ y : FLeaf, T.At y ∧ y.1 = v := by
  unfold brL at h
  split at h
  · rename_i b2 y f
    obtain ⟨rfl, rfl⟩ := Prod.mk.inj (Option.some.inj h)
    exact ⟨y, Or.inl ⟨hb, rfl⟩, rfl⟩
  · cases h
theorem brL_fun {P : Program} {tb : Tb} {wf : List FuncId} {sp : FuncId → Option (List Sv → St → Tree FLeaf)} {fuel d f : Nat} (hT : TbOk P tb) (hm : P.follows .mixedOrders = true) (hs : SpOk P sp) {args : List Sv} {b : Bool} {v : Sv}
    (h : brL (evFn tb wf sp fuel d f args st0) = some (b, v)) (hb : b = true) : ∃ y : FLeaf, y.1 = v ∧ FunOk P f args st0 y.1 y.2 := by
  obtain ⟨y, h1, h2⟩ := brL_at h hb
  exact ⟨y, h2, evFn_at hT hm hs h1⟩
theorem spNo_ok : SpOk Tryz.prog (fun _ => none) := fun f g hf => by cases hf
set_option maxRecDepth 100000 in
theorem form_eval (k : Int) : brL (evFn tbl [] (fun _ => none) 300 12 18 [.one (.i .i64 k false)] st0) = some ((bif decide (k < 1) then true else decide (k ≥ 10)), .one (.val (.pointer none))) := by kernel_rfl
theorem formOf_bad (k : Int) (h : k < 1 ∨ 10 ≤ k) (w : World) (hG : Glob0 w) : Calls Tryz.prog 18 #[.int .i64 k] w fun e w' => e = .returned (.pointer none) ∧ Below w.heap.size w w' := by
  obtain ⟨y, h2, h1⟩ := brL_fun tbl_ok tbl_any spNo_ok (form_eval k) (by
    rcases h with h | h
    · rw [decide_eq_true h]; rfl
    · by_cases h0 : k < 1
      · rw [decide_eq_true h0]; rfl
      · rw [decide_eq_false h0, decide_eq_true (show k ≥ 10 from h)]; rfl)
  have h3 := h1.any (fun x hx => by
    obtain rfl := List.mem_singleton.1 hx
    rfl) (by rw [h2]; rfl) w hG
  rw [h2] at h3
  exact h3
/-- The rule of formOf, where there is no form. -/
def foRule : List Sv → St → Tree FLeaf
  | [.one (.i .i64 k _)], σ => .must (decide (k < 1 ∨ 10 ≤ k)) (.leaf (.one (.val (.pointer none)), σ))
  | _, _ => .fail
theorem foRule_ok {args : List Sv} {σ : St} {y : FLeaf} (hy : (foRule args σ).At y) : FunOk Tryz.prog 18 args σ y.1 y.2 := by
  unfold foRule at hy
  split at hy
  · rename_i k l
    obtain ⟨h1, h2⟩ := hy
    obtain rfl : _ = y := h2
    exact FunOk.of_anyG rfl fun e w hG => formOf_bad k (of_decide_eq_true h1) w hG
  · exact hy.elim
def spF (f : FuncId) : Option (List Sv → St → Tree FLeaf) := match Nat.beq f 18 with
  | true => some foRule
  | false => none
theorem spF_ok : SpOk Tryz.prog spF := by
  intro f g hf args σ y hy
  unfold spF at hf
  split at hf
  · rename_i h; obtain rfl := beq_iff'.1 h
    obtain rfl := Option.some.inj hf; exact foRule_ok hy
  · cases hf
set_option maxRecDepth 100000 in
theorem chk_bad (k t a b : Int) (nm ot : ByteArray) : res (evFn tbl [] spF 300 12 12 [.agg [.i .i64 k false, .i .i64 t false, .i .i64 a false, .i .i64 b false, .s nm false, .s ot false]] st0) = some ([decide (k < 1 ∨ 10 ≤ k)], .one (.i .i64 2)) := by kernel_rfl
theorem Check_bad (k t a b : Int) (nm ot : ByteArray) (w : World) (hG : Glob0 w) (hk : k < 1 ∨ 10 ≤ k) :
    Calls Tryz.prog 12 #[.agg #[.int .i64 k, .int .i64 t, .int .i64 a, .int .i64 b, .string nm, .string ot]] w fun e w' => e = .returned (.int .i64 2) ∧ Below w.heap.size w w' := by
  have h := res_any tbl_ok tbl_any spF_ok (fun x hx => by
    obtain rfl := List.mem_singleton.1 hx
    rfl) (chk_bad k t a b nm ot) (fun x hx => by
    obtain rfl := List.mem_singleton.1 hx
    exact decide_eq_true hk) w hG
  exact h
/-- Check at any event with short names. -/
theorem Check_any (k t a b : Int) (nm ot : ByteArray) (w : World) (hG : Glob0 w) (h1 : nm.size ≤ 1000000) (h2 : ot.size ≤ 1000000) :
    Calls Tryz.prog 12 #[.agg #[.int .i64 k, .int .i64 t, .int .i64 a, .int .i64 b, .string nm, .string ot]] w fun e w' => e = .returned (.int .i64 (bif okE k t a b nm ot then 0 else 2)) ∧ Below w.heap.size w w' := by
  by_cases hk : 1 ≤ k ∧ k ≤ 9
  · have h := Check_all k t a b nm ot w hG hk h1 h2
    have e : (bif okE k t a b nm ot then (0 : Int) else 2) = (bif chkE k t a b nm ot then 2 else 0) := by
      unfold okE
      rw [decide_eq_true ⟨hk.1, hk.2, h1, h2⟩]
      cases chkE k t a b nm ot <;> rfl
    rw [e]; exact h
  · have h := Check_bad k t a b nm ot w hG (by omega)
    have e : okE k t a b nm ot = false := by
      unfold okE
      rw [decide_eq_false (by omega)]
      rfl
    rw [e]; exact h
def evV (k t a b : Int) (nm ot : ByteArray) : Value := .agg #[.int .i64 k, .int .i64 t, .int .i64 a, .int .i64 b, .string nm, .string ot]
set_option maxRecDepth 20000 in
theorem Text_no (k t a b : Int) (nm ot : ByteArray) (w : World) (hG : Glob0 w) (h1 : nm.size ≤ 1000000) (h2 : ot.size ≤ 1000000) (h : okE k t a b nm ot = false) :
    Calls Tryz.prog 8 #[.agg #[.int .i64 k, .int .i64 t, .int .i64 a, .int .i64 b, .string nm, .string ot]] w fun e w' => e = .returned (.tuple #[.string ⟨#[]⟩, .int .i64 2]) ∧ Below w.heap.size w w' := by
  have C := Lib.hid (fun W hG => Check_any k t a b nm ot W hG h1 h2)
  rw [h] at C
  simp only [cond_false] at C
  have HG := Lib.hid hG
  clear hG h h1 h2
  go_enter Tryz.func8, Tryz.ntmps8
  go_wp2_with (go_at_call 12; refine (C.out _ (gstep HG.out bAl'')).mono ?_; rintro e w1 ⟨rfl, hb1⟩)
  exact bodyPost_ret (v := .tuple #[.string ⟨#[]⟩, .int .i64 2]) (by simp only [results, Tryz.results8]; go_simp) rfl ⟨rfl, (by repeat' (first | exact Below.refl _ _ | assumption | apply bDrewN | apply bDrew | apply bAlloc | (refine bSet ?_ ?_ _) | (refine bStep ?_ (by assumption)) | omega | (simp <;> omega)))⟩
set_option maxRecDepth 20000 in
theorem Bytes_no (k t a b : Int) (nm ot : ByteArray) (w : World) (hG : Glob0 w) (h1 : nm.size ≤ 1000000) (h2 : ot.size ≤ 1000000) (h : okE k t a b nm ot = false) :
    Calls Tryz.prog 6 #[.agg #[.int .i64 k, .int .i64 t, .int .i64 a, .int .i64 b, .string nm, .string ot]] w fun e w' => e = .returned (.tuple #[.slice none 0 0, .int .i64 2]) ∧ Below w.heap.size w w' := by
  have C := Lib.hid (fun W hG => Check_any k t a b nm ot W hG h1 h2)
  rw [h] at C
  simp only [cond_false] at C
  have HG := Lib.hid hG
  clear hG h h1 h2
  go_enter Tryz.func6, Tryz.ntmps6
  go_wp2_with (go_at_call 12; refine (C.out _ (gstep HG.out bAl'')).mono ?_; rintro e w1 ⟨rfl, hb1⟩)
  exact bodyPost_ret (v := .tuple #[.slice none 0 0, .int .i64 2]) (by simp only [results, Tryz.results6]; go_simp) rfl ⟨rfl, (by repeat' (first | exact Below.refl _ _ | assumption | apply bDrewN | apply bDrew | apply bAlloc | (refine bSet ?_ ?_ _) | (refine bStep ?_ (by assumption)) | omega | (simp <;> omega)))⟩
end Go.Proofs.YtdelgbdiofkndaaGreatDoor

/-
  The bytes of events tell them apart: the plain law.
-/
set_option linter.unusedSimpArgs false
set_option linter.unusedVariables false
namespace Go.Proofs.YtdelgbdiofkndaaGreatDoor
def b8 (n : Nat) : List Nat := [n / 72057594037927936 % 256, n / 281474976710656 % 256, n / 1099511627776 % 256, n / 4294967296 % 256, n / 16777216 % 256, n / 65536 % 256, n / 256 % 256, n % 256]
theorem b8_inj {m n : Nat} (hm : m ≤ 1099511627776) (hn : n ≤ 1099511627776) (h : b8 m = b8 n) : m = n := by
  unfold b8 at h
  simp only [List.cons.injEq, and_true] at h
  obtain ⟨-, -, h3, h4, h5, h6, h7, h8⟩ := h
  omega
/-- The bytes of an event. -/
def bytesE (e : Ev) : List Nat := e.k.toNat :: (b8 e.t.toNat ++ (b8 e.a.toNat ++ (b8 e.b.toNat ++ (e.nm.length :: (e.nm.map UInt8.toNat ++ (e.ot.length :: e.ot.map UInt8.toNat))))))
theorem names_inj {a b : List UInt8} (h : a.map UInt8.toNat = b.map UInt8.toNat) : a = b := by
  have h2 := congrArg (List.map UInt8.ofNat) h
  simp only [List.map_map] at h2
  have e : ∀ l : List UInt8, l.map (UInt8.ofNat ∘ UInt8.toNat) = l := fun l => by
    conv => rhs; rw [← List.map_id l]
    exact List.map_congr_left fun x _ => by simp
  rwa [e, e] at h2
theorem bytes_inj {e f : Ev} (he : EvOk e) (hf : EvOk f) (h : bytesE e = bytesE f) : e = f := by
  obtain ⟨k, t, a, b, nm, ot⟩ := e
  obtain ⟨k', t', a', b', nm', ot'⟩ := f
  have k1 := he.k; have k2 := hf.k; have t1 := he.t; have t2 := hf.t; have a1 := he.a; have a2 := hf.a; have b1 := he.b; have b2 := hf.b
  dsimp only at k1 k2 t1 t2 a1 a2 b1 b2
  unfold bytesE at h
  dsimp only at h
  simp only [List.cons.injEq] at h
  obtain ⟨h1, h⟩ := h
  obtain ⟨h2, h⟩ := List.append_inj h rfl
  obtain ⟨h3, h⟩ := List.append_inj h rfl
  obtain ⟨h4, h⟩ := List.append_inj h rfl
  simp only [List.cons.injEq] at h
  obtain ⟨h5, h⟩ := h
  obtain ⟨h6, h⟩ := List.append_inj h (by simpa using h5)
  simp only [List.cons.injEq] at h
  obtain ⟨-, h7⟩ := h
  have e1 : k = k' := by omega
  have e2 : t = t' := by have := b8_inj (by omega) (by omega) h2; omega
  have e3 : a = a' := by have := b8_inj (by omega) (by omega) h3; omega
  have e4 : b = b' := by have := b8_inj (by omega) (by omega) h4; omega
  rw [e1, e2, e3, e4, names_inj h6, names_inj h7]
end Go.Proofs.YtdelgbdiofkndaaGreatDoor

/-
  raw: the bytes of an event.
-/
set_option linter.unusedSimpArgs false
set_option linter.unusedVariables false
namespace Go.Proofs.YtdelgbdiofkndaaGreatDoor
open Sx Go.RowKit
def byC (l : List Nat) : List Value := l.map fun n : Nat => Value.int .u8 (n : Int)
theorem byC_one (l : List Nat) : ∀ v ∈ byC l, v.oneCell' = true := fun v hv => by
  obtain ⟨n, _, rfl⟩ := List.mem_map.1 hv; rfl
theorem byC_app (l m : List Nat) : byC (l ++ m) = byC l ++ byC m := by simp [byC]
theorem wb_any (B b : Nat) (l : List Nat) (c : Nat) (w : World) (h : Lib.IsBuffer 73 5 B b (byC l) w) (hB : B ≤ w.heap.size) (hl : l.length ≤ 1000000) :
    Calls Tryz.prog 36 #[.pointer (some ⟨b, 0, none⟩), .int .u8 (c : Nat)] w fun e w' => e = .returned .nilIface ∧ Lib.IsBuffer 73 5 B b (byC (l ++ [c])) w' ∧ Below B w w' := by
  have h2 := Any.Buffer_WriteByte laysM179 B b (byC l) (c : Int) w h hB (byC_one l) (by simp [byC]; omega)
  rw [byC_app]
  exact h2
theorem ws_any (B b : Nat) (l : List Nat) (s : ByteArray) (w : World) (h : Lib.IsBuffer 73 5 B b (byC l) w) (hB : B ≤ w.heap.size) (hl : l.length ≤ 1000000) (hs : s.size ≤ 1000000) :
    Calls Tryz.prog 37 #[.pointer (some ⟨b, 0, none⟩), .string s] w fun e w' => e = .returned (.tuple #[.int .i64 s.size, .nilIface]) ∧ Lib.IsBuffer 73 5 B b (byC (l ++ s.data.toList.map UInt8.toNat)) w' ∧ Below B w w' := by
  have h2 := Any.Buffer_WriteString laysM178 B b (byC l) s w h hB (byC_one l) (by simp [byC]; omega)
  rw [byC_app]
  have e : byC (s.data.toList.map UInt8.toNat) = Lib.byteCells s.data.toList := by simp [byC, Lib.byteCells]
  rw [e]
  exact h2
end Go.Proofs.YtdelgbdiofkndaaGreatDoor

/-
  An array value at an index.
-/
set_option linter.unusedSimpArgs false
set_option linter.unusedVariables false
namespace Go.Proofs.YtdelgbdiofkndaaGreatDoor
open Sx Go.RowKit
theorem idx3 (x y z : Int) (W : World) (j : Nat) (hj : j < 3) : (Instr.index 75 (.agg #[.int .i64 x, .int .i64 y, .int .i64 z]) (.int .i64 (j : Int))).run Tryz.prog W = .ok (.int .i64 ([x, y, z].getD j 0)) W := by
  have hu := Tryz.underlying75
  have hc : Tryz.prog.cellsOf 2 = 1 := by kernel_rfl
  have h3 : j = 0 ∨ j = 1 ∨ j = 2 := by omega
  rcases h3 with rfl | rfl | rfl
  all_goals
    simp only [Instr.index, Sem.run_bind, asIntOf, Sem.run_pure, Result.andThen_ok, run_underlying hu]
    simp
    simp only [part, Sem.run_bind, run_isAgg_plain Tryz.underlying2 rfl, Result.andThen_ok]
    rfl
theorem idx2 (x y : ByteArray) (W : World) (j : Nat) (hj : j < 2) : (Instr.index 76 (.agg #[.string x, .string y]) (.int .i64 (j : Int))).run Tryz.prog W = .ok (.string ([x, y].getD j ⟨#[]⟩)) W := by
  have hu := Tryz.underlying76
  have hc : Tryz.prog.cellsOf 9 = 1 := by kernel_rfl
  have h3 : j = 0 ∨ j = 1 := by omega
  rcases h3 with rfl | rfl
  all_goals
    simp only [Instr.index, Sem.run_bind, asIntOf, Sem.run_pure, Result.andThen_ok, run_underlying hu]
    simp
    simp only [part, Sem.run_bind, run_isAgg_plain Tryz.underlying9 rfl, Result.andThen_ok]
    rfl
end Go.Proofs.YtdelgbdiofkndaaGreatDoor
