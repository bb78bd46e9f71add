/-
 Text at each kind of events that Check lets pass.
-/
import Derived.Test.YtmpilgkfbibhlaaGreatDoorG13R
import Derived.Lib.ItoaLen
set_option linter.unusedSimpArgs false
set_option linter.unusedVariables false
namespace Go.Proofs.YtmpilgkfbibhlaaGreatDoor
open Sx Go.RowKit
def chkE (k t a b : Int) (nm ot : ByteArray) : Bool := match k with
 | 1 => chkB 1 4294967296 32 t a b (nameB nm) ((ot.toList == []))
 | 2 => chkB 0 1099511627776 1099511627776 t a b ((nm.toList == [])) ((ot.toList == []))
 | 3 => chkB 0 4294967296 0 t a b ((nm.toList == [])) ((ot.toList == []))
 | 4 => chkB 1 12 0 t a b ((nm.toList == [])) ((ot.toList == []))
 | 5 => chkB 0 0 0 t a b (modB nm) (nameB ot)
 | 6 => chkB 0 0 0 t a b (modB nm) (nameB ot)
 | 7 => chkB 0 0 0 t a b (nameB nm) ((ot.toList == []))
 | 8 => chkB 0 0 0 t a b (nameB nm) ((ot.toList == []))
 | 9 => chkB 0 0 0 t a b ((nm.toList == [])) ((ot.toList == []))
 | _ => true
def okE (k t a b : Int) (nm ot : ByteArray) : Bool := decide (1 ≤ k ∧ k ≤ 9 ∧ nm.size ≤ 1000000 ∧ ot.size ≤ 1000000) && !chkE k t a b nm ot
end Go.Proofs.YtmpilgkfbibhlaaGreatDoor
namespace Go.Proofs.YtmpilgkfbibhlaaGreatDoor
open Sx Go.RowKit
theorem nameB_sp {v : ByteArray} (h : nameB v = true) : Sp v.data.toList ∧ v.data.toList ≠ [] := by
 unfold nameB at h
 rw [Bool.and_eq_true] at h
 obtain ⟨h1, h2⟩ := h
 have h3 := of_decide_eq_true h1
 refine ⟨fun c hc => ?_, fun e => ?_⟩
 ·have := List.all_eq_true.1 h2 c hc
  unfold okc at this
  have := of_decide_eq_true this
  omega
 ·rw [Lib.size_eq, e] at h3
  simp at h3
theorem modB_sp {s : ByteArray} (h : modB s = true) : Sp s.data.toList ∧ s.data.toList ≠ [] := by
 unfold modB at h
 rw [Bool.and_eq_true] at h
 obtain ⟨h1, h2⟩ := h
 have hc : 0 ≤ colon s := by
  by_cases hc : 0 ≤ colon s
  ·exact hc
  ·unfold cutS at h1; rw [if_neg hc] at h1; cases h1
 have e : cutS s = (s.extract 0 (colon s).toNat, s.extract ((colon s).toNat + 1) s.size, true) := by unfold cutS; rw [if_pos hc]
 rw [e] at h2
 obtain ⟨i, hi⟩ := Int.eq_ofNat_of_zero_le hc
 have hat := (Lib.indexByte_some (l := s.data.toList) (c := 58) (o := i) hi).1
 rw [hi] at h2
 simp only [Int.toNat_natCast] at h2
 have ea : (s.extract 0 i).data.toList = s.data.toList.take i := by rw [Lib.extract_eq]; simp
 have eb : (s.extract (i + 1) s.size).data.toList = s.data.toList.drop (i + 1) := by
  rw [Lib.extract_eq]
  simp only [List.toList_toArray]
  exact List.take_of_length_le (by rw [List.length_drop, ← Lib.size_eq]; exact Nat.le_refl _)
 cases hn : numS (s.extract (i + 1) s.size) with
 | none => rw [hn] at h2; cases h2
 | some v =>
  rw [hn] at h2
  simp only [Bool.and_eq_true, decide_eq_true_eq] at h2
  obtain ⟨⟨⟨v1, v2⟩, h3⟩, h4⟩ := h2
  have h5 := (nameB_sp h4).1
  rw [ea] at h5
  have h6 : Lib.itoa v = s.data.toList.drop (i + 1) := by
   have := eq_of_beq h3
   rw [this, Lib.toList_data, eb]
  have hil : i < s.data.toList.length := (List.getElem?_eq_some_iff.1 hat).1
  have hat2 : s.data.toList[i] = 58 := (List.getElem?_eq_some_iff.1 hat).2
  have hs : s.data.toList = s.data.toList.take i ++ 58 :: s.data.toList.drop (i + 1) := by
   conv => lhs; rw [← List.take_append_drop i s.data.toList]
   rw [List.drop_eq_getElem_cons hil, hat2]
  refine ⟨fun c hc => ?_, fun e => by rw [e] at hil; simp at hil⟩
  rw [hs] at hc
  rcases List.mem_append.1 hc with hc | hc
  ·exact h5 c hc
  ·rcases List.mem_cons.1 hc with rfl | hc
   ·decide
   ·rw [← h6] at hc; exact itoa_sp v1 c hc
theorem chkB_no {least fa fb t a b : Int} {p q : Bool} (h : chkB least fa fb t a b p q = false) : (0 ≤ t ∧ t ≤ 1099511627776) ∧ (least ≤ a ∧ a ≤ fa) ∧ (0 ≤ b ∧ b ≤ fb) ∧ p = true ∧ q = true := by
 unfold chkB at h
 by_cases h1 : t ≥ 0
 ·by_cases h2 : t ≤ 1099511627776
  ·by_cases h3 : a < least
   ·simp [h1, h2, h3] at h
   ·by_cases h4 : a > fa
    ·simp [h1, h2, h3, h4] at h
    ·by_cases h5 : b < 0
     ·simp [h1, h2, h3, h4, h5] at h
     ·by_cases h6 : b > fb
      ·simp [h1, h2, h3, h4, h5, h6] at h
      ·cases p <;> cases q <;> simp [h1, h2, h3, h4, h5, h6] at h
       exact ⟨⟨h1, h2⟩, ⟨by omega, by omega⟩, ⟨by omega, by omega⟩, rfl, rfl⟩
  ·simp [h1, h2] at h
 ·simp [h1] at h
def evL (k t a b : Int) (nm ot : ByteArray) : Ev := ⟨k, t, a, b, nm.data.toList, ot.data.toList⟩
theorem emp_nil {v : ByteArray} (h : (v.toList == []) = true) : v.data.toList = [] := by
 rw [Lib.toList_data] at h
 exact eq_of_beq h
theorem sp_nil : Sp [] := fun c hc => by cases hc
theorem okE_ev {k t a b : Int} {nm ot : ByteArray} (h : okE k t a b nm ot = true) : EvOk (evL k t a b nm ot) ∧ nm.size ≤ 1000000 ∧ ot.size ≤ 1000000 := by
 unfold okE at h
 rw [Bool.and_eq_true] at h
 obtain ⟨h1, h2⟩ := h
 obtain ⟨k1, k2, k3, k4⟩ := of_decide_eq_true h1
 have h3 : chkE k t a b nm ot = false := by simpa using h2
 refine ⟨?_, k3, k4⟩
 have hc : k = 1 ∨ k = 2 ∨ k = 3 ∨ k = 4 ∨ k = 5 ∨ k = 6 ∨ k = 7 ∨ k = 8 ∨ k = 9 := by omega
 unfold evL
 rcases hc with rfl | rfl | rfl | rfl | rfl | rfl | rfl | rfl | rfl
 ·obtain ⟨q1, q2, q3, q4, q5⟩ := chkB_no h3
  obtain ⟨n1, n2⟩ := nameB_sp q4; have n3 := emp_nil q5; rw [n3]; refine ⟨?_, q1, ?_, ?_, ?_, ?_, n1, sp_nil, ?_, ?_, ?_, ?_⟩
  all_goals dsimp only
  all_goals first | (constructor <;> omega) | (intro h; omega) | (intro _; assumption) | (intro _; rfl)
 ·obtain ⟨q1, q2, q3, q4, q5⟩ := chkB_no h3
  have n1 := emp_nil q4; have n3 := emp_nil q5; rw [n1, n3]; refine ⟨?_, q1, ?_, ?_, ?_, ?_, sp_nil, sp_nil, ?_, ?_, ?_, ?_⟩
  all_goals dsimp only
  all_goals first | (constructor <;> omega) | (intro h; omega) | (intro _; assumption) | (intro _; rfl)
 ·obtain ⟨q1, q2, q3, q4, q5⟩ := chkB_no h3
  have n1 := emp_nil q4; have n3 := emp_nil q5; rw [n1, n3]; refine ⟨?_, q1, ?_, ?_, ?_, ?_, sp_nil, sp_nil, ?_, ?_, ?_, ?_⟩
  all_goals dsimp only
  all_goals first | (constructor <;> omega) | (intro h; omega) | (intro _; assumption) | (intro _; rfl)
 ·obtain ⟨q1, q2, q3, q4, q5⟩ := chkB_no h3
  have n1 := emp_nil q4; have n3 := emp_nil q5; rw [n1, n3]; refine ⟨?_, q1, ?_, ?_, ?_, ?_, sp_nil, sp_nil, ?_, ?_, ?_, ?_⟩
  all_goals dsimp only
  all_goals first | (constructor <;> omega) | (intro h; omega) | (intro _; assumption) | (intro _; rfl)
 ·obtain ⟨q1, q2, q3, q4, q5⟩ := chkB_no h3
  obtain ⟨n1, n2⟩ := modB_sp q4; obtain ⟨n3, n4⟩ := nameB_sp q5; refine ⟨?_, q1, ?_, ?_, ?_, ?_, n1, n3, ?_, ?_, ?_, ?_⟩
  all_goals dsimp only
  all_goals first | (constructor <;> omega) | (intro h; omega) | (intro _; assumption) | (intro _; rfl)
 ·obtain ⟨q1, q2, q3, q4, q5⟩ := chkB_no h3
  obtain ⟨n1, n2⟩ := modB_sp q4; obtain ⟨n3, n4⟩ := nameB_sp q5; refine ⟨?_, q1, ?_, ?_, ?_, ?_, n1, n3, ?_, ?_, ?_, ?_⟩
  all_goals dsimp only
  all_goals first | (constructor <;> omega) | (intro h; omega) | (intro _; assumption) | (intro _; rfl)
 ·obtain ⟨q1, q2, q3, q4, q5⟩ := chkB_no h3
  obtain ⟨n1, n2⟩ := nameB_sp q4; have n3 := emp_nil q5; rw [n3]; refine ⟨?_, q1, ?_, ?_, ?_, ?_, n1, sp_nil, ?_, ?_, ?_, ?_⟩
  all_goals dsimp only
  all_goals first | (constructor <;> omega) | (intro h; omega) | (intro _; assumption) | (intro _; rfl)
 ·obtain ⟨q1, q2, q3, q4, q5⟩ := chkB_no h3
  obtain ⟨n1, n2⟩ := nameB_sp q4; have n3 := emp_nil q5; rw [n3]; refine ⟨?_, q1, ?_, ?_, ?_, ?_, n1, sp_nil, ?_, ?_, ?_, ?_⟩
  all_goals dsimp only
  all_goals first | (constructor <;> omega) | (intro h; omega) | (intro _; assumption) | (intro _; rfl)
 ·obtain ⟨q1, q2, q3, q4, q5⟩ := chkB_no h3
  have n1 := emp_nil q4; have n3 := emp_nil q5; rw [n1, n3]; refine ⟨?_, q1, ?_, ?_, ?_, ?_, sp_nil, sp_nil, ?_, ?_, ?_, ?_⟩
  all_goals dsimp only
  all_goals first | (constructor <;> omega) | (intro h; omega) | (intro _; assumption) | (intro _; rfl)
end Go.Proofs.YtmpilgkfbibhlaaGreatDoor
namespace Go.Proofs.YtmpilgkfbibhlaaGreatDoor
def b8 (n : Nat) : List Nat := [n / 72057594037927936 % 256, n / 281474976710656 % 256, n / 1099511627776 % 256, n / 4294967296 % 256, n / 16777216 % 256, n / 65536 % 256, n / 256 % 256, n % 256]
def bytesE (e : Ev) : List Nat := e.k.toNat :: (b8 e.t.toNat ++ (b8 e.a.toNat ++ (b8 e.b.toNat ++ (e.nm.length :: (e.nm.map UInt8.toNat ++ (e.ot.length :: e.ot.map UInt8.toNat))))))
end Go.Proofs.YtmpilgkfbibhlaaGreatDoor
