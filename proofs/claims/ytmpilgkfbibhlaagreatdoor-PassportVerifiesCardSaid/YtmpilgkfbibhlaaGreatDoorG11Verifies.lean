/-
 Events: their bytes and their texts tell them apart: the plain law.
-/
import Derived.Test.YtmpilgkfbibhlaaGreatDoorG0Verifies
import Derived.Lib.ItoaNum
import Derived.Lib.ItoaMem
import Derived.Lib.Join
import Derived.Test.YtmpilgkfbibhlaaGreatDoorG10Verifies
import Derived.Lib.ItoaLen
set_option linter.unusedSimpArgs false
set_option linter.unusedVariables false
namespace Go.Proofs.YtmpilgkfbibhlaaGreatDoor
/-! Decimal digits. -/
theorem dig_nat {u : Nat} (h : u < 10) : (UInt8.ofNat (48 + u)).toNat = 48 + u := by
 simp only [UInt8.toNat_ofNat']
 omega
theorem dec_step {u : Nat} (h : ¬ u < 10) : Lib.decDigits u = Lib.decDigits (u / 10) ++ [UInt8.ofNat (48 + u % 10)] := by
 rw [Lib.decDigits, dif_neg h]
theorem dec_ne (u : Nat) : Lib.decDigits u ≠ [] := by
 by_cases h : u < 10
 ·rw [Lib.decDigits_one h]; simp
 ·rw [dec_step h]; simp
theorem dec_plain (u : Nat) : ∀ c ∈ Lib.decDigits u, 48 ≤ c.toNat ∧ c.toNat ≤ 57 := by
 induction u using Nat.strongRecOn with
 | ind u ih =>
  intro c hc
  by_cases h : u < 10
  ·rw [Lib.decDigits_one h] at hc
   obtain rfl := List.mem_singleton.1 hc
   rw [dig_nat h]; omega
  ·rw [dec_step h] at hc
   rcases List.mem_append.1 hc with hc | hc
   ·exact ih (u / 10) (by omega) c hc
   ·obtain rfl := List.mem_singleton.1 hc
    rw [dig_nat (by omega)]; omega
theorem itoa_pos {n : Int} (h : 0 ≤ n) : Lib.itoa n = Lib.decDigits n.toNat := by
 obtain ⟨u, rfl⟩ := Int.eq_ofNat_of_zero_le h
 exact Lib.itoa_nonneg u
def Sp (l : List UInt8) : Prop := ∀ c ∈ l, c.toNat ≠ 32
theorem itoa_sp {n : Int} (h : 0 ≤ n) : Sp (Lib.itoa n) := fun c hc => by
 rw [itoa_pos h] at hc
 have := dec_plain _ c hc
 omega
/-! Texts joined by a space. -/
/-! Events. -/
structure Ev where
 k : Int
 t : Int
 a : Int
 b : Int
 nm : List UInt8
 ot : List UInt8
def word (k : Int) : List UInt8 :=
 if k = 1 then [109, 97, 100, 101] else if k = 2 then [117, 115, 101] else if k = 3 then [116, 101, 115, 116] else if k = 4 then [102, 97, 117, 108, 116] else
 if k = 5 then [112, 117, 116] else if k = 6 then [116, 97, 107, 101] else if k = 7 then [114, 101, 99, 97, 108, 108] else if k = 8 then [99, 108, 101, 97, 114] else [115, 99, 114, 97, 112]
structure EvOk (e : Ev) : Prop where
 k : 1 ≤ e.k ∧ e.k ≤ 9
 t : 0 ≤ e.t ∧ e.t ≤ 1099511627776
 a : 0 ≤ e.a ∧ e.a ≤ 1099511627776
 b : 0 ≤ e.b ∧ e.b ≤ 1099511627776
 a0 : 5 ≤ e.k → e.a = 0
 b0 : 3 ≤ e.k → e.b = 0
 nm : Sp e.nm
 ot : Sp e.ot
 nm0 : (e.k = 2 ∨ e.k = 3 ∨ e.k = 4 ∨ e.k = 9) → e.nm = []
 nm1 : (e.k = 1 ∨ e.k = 5 ∨ e.k = 6 ∨ e.k = 7 ∨ e.k = 8) → e.nm ≠ []
 ot0 : (e.k ≠ 5 ∧ e.k ≠ 6) → e.ot = []
 ot1 : (e.k = 5 ∨ e.k = 6) → e.ot ≠ []
def parts (e : Ev) : List (List UInt8) :=
 Lib.itoa e.t :: ((if e.k ≤ 2 then [Lib.itoa e.a, Lib.itoa e.b] else if e.k ≤ 4 then [Lib.itoa e.a] else []) ++ (if e.nm = [] then [] else [e.nm]) ++ (if e.ot = [] then [] else [e.ot]))
end Go.Proofs.YtmpilgkfbibhlaaGreatDoor
namespace Go.Proofs.YtmpilgkfbibhlaaGreatDoor
open Sx Go.RowKit
def chkE (k t a b : Int) (nm ot : ByteArray) : Bool := match k with
 | 1 => chkB 1 4294967296 32 t a b (nameB nm) ((ot.toList == []))
 | 2 => chkB 0 1099511627776 1099511627776 t a b ((nm.toList == [])) ((ot.toList == []))
 | 3 => chkB 0 4294967296 0 t a b ((nm.toList == [])) ((ot.toList == []))
 | 4 => chkB 1 12 0 t a b ((nm.toList == [])) ((ot.toList == []))
 | 5 => chkB 0 0 0 t a b (modB nm) (nameB ot)
 | 6 => chkB 0 0 0 t a b (modB nm) (nameB ot)
 | 7 => chkB 0 0 0 t a b (nameB nm) ((ot.toList == []))
 | 8 => chkB 0 0 0 t a b (nameB nm) ((ot.toList == []))
 | 9 => chkB 0 0 0 t a b ((nm.toList == [])) ((ot.toList == []))
 | _ => true
def okE (k t a b : Int) (nm ot : ByteArray) : Bool := decide (1 ≤ k ∧ k ≤ 9 ∧ nm.size ≤ 1000000 ∧ ot.size ≤ 1000000) && !chkE k t a b nm ot
theorem Check_all (k t a b : Int) (nm ot : ByteArray) (w : World) (hG : Glob0 w) (hk : 1 ≤ k ∧ k ≤ 9) (h1 : nm.size ≤ 1000000) (h2 : ot.size ≤ 1000000) :
  Calls Tryz.prog 42 #[.agg #[.int .i64 k, .int .i64 t, .int .i64 a, .int .i64 b, .string nm, .string ot]] w fun e w' => e = .returned (.int .i64 (bif chkE k t a b nm ot then 2 else 0)) ∧ Below w.heap.size w w' := by
 have hc : k = 1 ∨ k = 2 ∨ k = 3 ∨ k = 4 ∨ k = 5 ∨ k = 6 ∨ k = 7 ∨ k = 8 ∨ k = 9 := by omega
 rcases hc with rfl | rfl | rfl | rfl | rfl | rfl | rfl | rfl | rfl
 ·exact Check_at1 t a b nm ot w hG h1 h2
 ·exact Check_at2 t a b nm ot w hG h1 h2
 ·exact Check_at3 t a b nm ot w hG h1 h2
 ·exact Check_at4 t a b nm ot w hG h1 h2
 ·exact Check_at5 t a b nm ot w hG h1 h2
 ·exact Check_at6 t a b nm ot w hG h1 h2
 ·exact Check_at7 t a b nm ot w hG h1 h2
 ·exact Check_at8 t a b nm ot w hG h1 h2
 ·exact Check_at9 t a b nm ot w hG h1 h2
end Go.Proofs.YtmpilgkfbibhlaaGreatDoor
namespace Go.Proofs.YtmpilgkfbibhlaaGreatDoor
open Sx Go.RowKit
end Go.Proofs.YtmpilgkfbibhlaaGreatDoor
namespace Go.Proofs.YtmpilgkfbibhlaaGreatDoor
open Sx Go.RowKit
theorem nameB_sp {v : ByteArray} (h : nameB v = true) : Sp v.data.toList ∧ v.data.toList ≠ [] := by
 unfold nameB at h
 rw [Bool.and_eq_true] at h
 obtain ⟨h1, h2⟩ := h
 have h3 := of_decide_eq_true h1
 refine ⟨fun c hc => ?_, fun e => ?_⟩
 ·have := List.all_eq_true.1 h2 c hc
  unfold okc at this
  have := of_decide_eq_true this
  omega
 ·rw [Lib.size_eq, e] at h3
  simp at h3
theorem modB_sp {s : ByteArray} (h : modB s = true) : Sp s.data.toList ∧ s.data.toList ≠ [] := by
 unfold modB at h
 rw [Bool.and_eq_true] at h
 obtain ⟨h1, h2⟩ := h
 have hc : 0 ≤ colon s := by
  by_cases hc : 0 ≤ colon s
  ·exact hc
  ·unfold cutS at h1; rw [if_neg hc] at h1; cases h1
 have e : cutS s = (s.extract 0 (colon s).toNat, s.extract ((colon s).toNat + 1) s.size, true) := by unfold cutS; rw [if_pos hc]
 rw [e] at h2
 obtain ⟨i, hi⟩ := Int.eq_ofNat_of_zero_le hc
 have hat := (Lib.indexByte_some (l := s.data.toList) (c := 58) (o := i) hi).1
 rw [hi] at h2
 simp only [Int.toNat_natCast] at h2
 have ea : (s.extract 0 i).data.toList = s.data.toList.take i := by rw [Lib.extract_eq]; simp
 have eb : (s.extract (i + 1) s.size).data.toList = s.data.toList.drop (i + 1) := by
  rw [Lib.extract_eq]
  simp only [List.toList_toArray]
  exact List.take_of_length_le (by rw [List.length_drop, ← Lib.size_eq]; exact Nat.le_refl _)
 cases hn : numS (s.extract (i + 1) s.size) with
 | none => rw [hn] at h2; cases h2
 | some v =>
  rw [hn] at h2
  simp only [Bool.and_eq_true, decide_eq_true_eq] at h2
  obtain ⟨⟨⟨v1, v2⟩, h3⟩, h4⟩ := h2
  have h5 := (nameB_sp h4).1
  rw [ea] at h5
  have h6 : Lib.itoa v = s.data.toList.drop (i + 1) := by
   have := eq_of_beq h3
   rw [this, Lib.toList_data, eb]
  have hil : i < s.data.toList.length := (List.getElem?_eq_some_iff.1 hat).1
  have hat2 : s.data.toList[i] = 58 := (List.getElem?_eq_some_iff.1 hat).2
  have hs : s.data.toList = s.data.toList.take i ++ 58 :: s.data.toList.drop (i + 1) := by
   conv => lhs; rw [← List.take_append_drop i s.data.toList]
   rw [List.drop_eq_getElem_cons hil, hat2]
  refine ⟨fun c hc => ?_, fun e => by rw [e] at hil; simp at hil⟩
  rw [hs] at hc
  rcases List.mem_append.1 hc with hc | hc
  ·exact h5 c hc
  ·rcases List.mem_cons.1 hc with rfl | hc
   ·decide
   ·rw [← h6] at hc; exact itoa_sp v1 c hc
theorem chkB_no {least fa fb t a b : Int} {p q : Bool} (h : chkB least fa fb t a b p q = false) : (0 ≤ t ∧ t ≤ 1099511627776) ∧ (least ≤ a ∧ a ≤ fa) ∧ (0 ≤ b ∧ b ≤ fb) ∧ p = true ∧ q = true := by
 unfold chkB at h
 by_cases h1 : t ≥ 0
 ·by_cases h2 : t ≤ 1099511627776
  ·by_cases h3 : a < least
   ·simp [h1, h2, h3] at h
   ·by_cases h4 : a > fa
    ·simp [h1, h2, h3, h4] at h
    ·by_cases h5 : b < 0
     ·simp [h1, h2, h3, h4, h5] at h
     ·by_cases h6 : b > fb
      ·simp [h1, h2, h3, h4, h5, h6] at h
      ·cases p <;> cases q <;> simp [h1, h2, h3, h4, h5, h6] at h
       exact ⟨⟨h1, h2⟩, ⟨by omega, by omega⟩, ⟨by omega, by omega⟩, rfl, rfl⟩
  ·simp [h1, h2] at h
 ·simp [h1] at h
def evL (k t a b : Int) (nm ot : ByteArray) : Ev := ⟨k, t, a, b, nm.data.toList, ot.data.toList⟩
theorem emp_nil {v : ByteArray} (h : (v.toList == []) = true) : v.data.toList = [] := by
 rw [Lib.toList_data] at h
 exact eq_of_beq h
theorem sp_nil : Sp [] := fun c hc => by cases hc
theorem okE_ev {k t a b : Int} {nm ot : ByteArray} (h : okE k t a b nm ot = true) : EvOk (evL k t a b nm ot) ∧ nm.size ≤ 1000000 ∧ ot.size ≤ 1000000 := by
 unfold okE at h
 rw [Bool.and_eq_true] at h
 obtain ⟨h1, h2⟩ := h
 obtain ⟨k1, k2, k3, k4⟩ := of_decide_eq_true h1
 have h3 : chkE k t a b nm ot = false := by simpa using h2
 refine ⟨?_, k3, k4⟩
 have hc : k = 1 ∨ k = 2 ∨ k = 3 ∨ k = 4 ∨ k = 5 ∨ k = 6 ∨ k = 7 ∨ k = 8 ∨ k = 9 := by omega
 unfold evL
 rcases hc with rfl | rfl | rfl | rfl | rfl | rfl | rfl | rfl | rfl
 ·obtain ⟨q1, q2, q3, q4, q5⟩ := chkB_no h3
  obtain ⟨n1, n2⟩ := nameB_sp q4; have n3 := emp_nil q5; rw [n3]; refine ⟨?_, q1, ?_, ?_, ?_, ?_, n1, sp_nil, ?_, ?_, ?_, ?_⟩
  all_goals dsimp only
  all_goals first | (constructor <;> omega) | (intro h; omega) | (intro _; assumption) | (intro _; rfl)
 ·obtain ⟨q1, q2, q3, q4, q5⟩ := chkB_no h3
  have n1 := emp_nil q4; have n3 := emp_nil q5; rw [n1, n3]; refine ⟨?_, q1, ?_, ?_, ?_, ?_, sp_nil, sp_nil, ?_, ?_, ?_, ?_⟩
  all_goals dsimp only
  all_goals first | (constructor <;> omega) | (intro h; omega) | (intro _; assumption) | (intro _; rfl)
 ·obtain ⟨q1, q2, q3, q4, q5⟩ := chkB_no h3
  have n1 := emp_nil q4; have n3 := emp_nil q5; rw [n1, n3]; refine ⟨?_, q1, ?_, ?_, ?_, ?_, sp_nil, sp_nil, ?_, ?_, ?_, ?_⟩
  all_goals dsimp only
  all_goals first | (constructor <;> omega) | (intro h; omega) | (intro _; assumption) | (intro _; rfl)
 ·obtain ⟨q1, q2, q3, q4, q5⟩ := chkB_no h3
  have n1 := emp_nil q4; have n3 := emp_nil q5; rw [n1, n3]; refine ⟨?_, q1, ?_, ?_, ?_, ?_, sp_nil, sp_nil, ?_, ?_, ?_, ?_⟩
  all_goals dsimp only
  all_goals first | (constructor <;> omega) | (intro h; omega) | (intro _; assumption) | (intro _; rfl)
 ·obtain ⟨q1, q2, q3, q4, q5⟩ := chkB_no h3
  obtain ⟨n1, n2⟩ := modB_sp q4; obtain ⟨n3, n4⟩ := nameB_sp q5; refine ⟨?_, q1, ?_, ?_, ?_, ?_, n1, n3, ?_, ?_, ?_, ?_⟩
  all_goals dsimp only
  all_goals first | (constructor <;> omega) | (intro h; omega) | (intro _; assumption) | (intro _; rfl)
 ·obtain ⟨q1, q2, q3, q4, q5⟩ := chkB_no h3
  obtain ⟨n1, n2⟩ := modB_sp q4; obtain ⟨n3, n4⟩ := nameB_sp q5; refine ⟨?_, q1, ?_, ?_, ?_, ?_, n1, n3, ?_, ?_, ?_, ?_⟩
  all_goals dsimp only
  all_goals first | (constructor <;> omega) | (intro h; omega) | (intro _; assumption) | (intro _; rfl)
 ·obtain ⟨q1, q2, q3, q4, q5⟩ := chkB_no h3
  obtain ⟨n1, n2⟩ := nameB_sp q4; have n3 := emp_nil q5; rw [n3]; refine ⟨?_, q1, ?_, ?_, ?_, ?_, n1, sp_nil, ?_, ?_, ?_, ?_⟩
  all_goals dsimp only
  all_goals first | (constructor <;> omega) | (intro h; omega) | (intro _; assumption) | (intro _; rfl)
 ·obtain ⟨q1, q2, q3, q4, q5⟩ := chkB_no h3
  obtain ⟨n1, n2⟩ := nameB_sp q4; have n3 := emp_nil q5; rw [n3]; refine ⟨?_, q1, ?_, ?_, ?_, ?_, n1, sp_nil, ?_, ?_, ?_, ?_⟩
  all_goals dsimp only
  all_goals first | (constructor <;> omega) | (intro h; omega) | (intro _; assumption) | (intro _; rfl)
 ·obtain ⟨q1, q2, q3, q4, q5⟩ := chkB_no h3
  have n1 := emp_nil q4; have n3 := emp_nil q5; rw [n1, n3]; refine ⟨?_, q1, ?_, ?_, ?_, ?_, sp_nil, sp_nil, ?_, ?_, ?_, ?_⟩
  all_goals dsimp only
  all_goals first | (constructor <;> omega) | (intro h; omega) | (intro _; assumption) | (intro _; rfl)
end Go.Proofs.YtmpilgkfbibhlaaGreatDoor
namespace Go.Proofs.YtmpilgkfbibhlaaGreatDoor
open Sx Go.RowKit
end Go.Proofs.YtmpilgkfbibhlaaGreatDoor
namespace Go.Proofs.YtmpilgkfbibhlaaGreatDoor
open Sx Go.RowKit
def brL : Tree FLeaf → Option (Bool × Sv)
 | .br b (.leaf y) _ => some (b, y.1)
 | _ => none
theorem brL_at {T : Tree FLeaf} {b : Bool} {v : Sv} (h : brL T = some (b, v)) (hb : b = true) : ∃ y : FLeaf, T.At y ∧ y.1 = v := by
 unfold brL at h
 split at h
 ·rename_i b2 y f
  obtain ⟨rfl, rfl⟩ := Prod.mk.inj (Option.some.inj h)
  exact ⟨y, Or.inl ⟨hb, rfl⟩, rfl⟩
 ·cases h
theorem brL_fun {P : Program} {tb : Tb} {wf : List FuncId} {sp : FuncId → Option (List Sv → St → Tree FLeaf)} {fuel d f : Nat} (hT : TbOk P tb) (hm : P.follows .mixedOrders = true) (hs : SpOk P sp) {args : List Sv} {b : Bool} {v : Sv}
  (h : brL (evFn tb wf sp fuel d f args st0) = some (b, v)) (hb : b = true) : ∃ y : FLeaf, y.1 = v ∧ FunOk P f args st0 y.1 y.2 := by
 obtain ⟨y, h1, h2⟩ := brL_at h hb
 exact ⟨y, h2, evFn_at hT hm hs h1⟩
theorem spNo_ok : SpOk Tryz.prog (fun _ => none) := fun f g hf => by cases hf
set_option maxRecDepth 100000 in
theorem form_eval (k : Int) : brL (evFn tbl [] (fun _ => none) 300 12 87 [.one (.i .i64 k false)] st0) = some ((bif decide (k < 1) then true else decide (k ≥ 10)), .one (.val (.pointer none))) := by kernel_rfl
theorem formOf_bad (k : Int) (h : k < 1 ∨ 10 ≤ k) (w : World) (hG : Glob0 w) : Calls Tryz.prog 87 #[.int .i64 k] w fun e w' => e = .returned (.pointer none) ∧ Below w.heap.size w w' := by
 obtain ⟨y, h2, h1⟩ := brL_fun tbl_ok tbl_any spNo_ok (form_eval k) (by
  rcases h with h | h
  ·rw [decide_eq_true h]; rfl
  ·by_cases h0 : k < 1
   ·rw [decide_eq_true h0]; rfl
   ·rw [decide_eq_false h0, decide_eq_true (show k ≥ 10 from h)]; rfl)
 have h3 := h1.any (fun x hx => by
  obtain rfl := List.mem_singleton.1 hx
  rfl) (by rw [h2]; rfl) w hG
 rw [h2] at h3
 exact h3
def foRule : List Sv → St → Tree FLeaf
 | [.one (.i .i64 k _)], σ => .must (decide (k < 1 ∨ 10 ≤ k)) (.leaf (.one (.val (.pointer none)), σ))
 | _, _ => .fail
theorem foRule_ok {args : List Sv} {σ : St} {y : FLeaf} (hy : (foRule args σ).At y) : FunOk Tryz.prog 87 args σ y.1 y.2 := by
 unfold foRule at hy
 split at hy
 ·rename_i k l
  obtain ⟨h1, h2⟩ := hy
  obtain rfl : _ = y := h2
  exact FunOk.of_anyG rfl fun e w hG => formOf_bad k (of_decide_eq_true h1) w hG
 ·exact hy.elim
def spF (f : FuncId) : Option (List Sv → St → Tree FLeaf) := match Nat.beq f 87 with
 | true => some foRule
 | false => none
theorem spF_ok : SpOk Tryz.prog spF := by
 intro f g hf args σ y hy
 unfold spF at hf
 split at hf
 ·rename_i h; obtain rfl := beq_iff'.1 h
  obtain rfl := Option.some.inj hf; exact foRule_ok hy
 ·cases hf
set_option maxRecDepth 100000 in
theorem chk_bad (k t a b : Int) (nm ot : ByteArray) : res (evFn tbl [] spF 300 12 42 [.agg [.i .i64 k false, .i .i64 t false, .i .i64 a false, .i .i64 b false, .s nm false, .s ot false]] st0) = some ([decide (k < 1 ∨ 10 ≤ k)], .one (.i .i64 2)) := by kernel_rfl
theorem Check_bad (k t a b : Int) (nm ot : ByteArray) (w : World) (hG : Glob0 w) (hk : k < 1 ∨ 10 ≤ k) :
  Calls Tryz.prog 42 #[.agg #[.int .i64 k, .int .i64 t, .int .i64 a, .int .i64 b, .string nm, .string ot]] w fun e w' => e = .returned (.int .i64 2) ∧ Below w.heap.size w w' := by
 have h := res_any tbl_ok tbl_any spF_ok (fun x hx => by
  obtain rfl := List.mem_singleton.1 hx
  rfl) (chk_bad k t a b nm ot) (fun x hx => by
  obtain rfl := List.mem_singleton.1 hx
  exact decide_eq_true hk) w hG
 exact h
theorem Check_any (k t a b : Int) (nm ot : ByteArray) (w : World) (hG : Glob0 w) (h1 : nm.size ≤ 1000000) (h2 : ot.size ≤ 1000000) :
  Calls Tryz.prog 42 #[.agg #[.int .i64 k, .int .i64 t, .int .i64 a, .int .i64 b, .string nm, .string ot]] w fun e w' => e = .returned (.int .i64 (bif okE k t a b nm ot then 0 else 2)) ∧ Below w.heap.size w w' := by
 by_cases hk : 1 ≤ k ∧ k ≤ 9
 ·have h := Check_all k t a b nm ot w hG hk h1 h2
  have e : (bif okE k t a b nm ot then (0 : Int) else 2) = (bif chkE k t a b nm ot then 2 else 0) := by
   unfold okE
   rw [decide_eq_true ⟨hk.1, hk.2, h1, h2⟩]
   cases chkE k t a b nm ot <;> rfl
  rw [e]; exact h
 ·have h := Check_bad k t a b nm ot w hG (by omega)
  have e : okE k t a b nm ot = false := by
   unfold okE
   rw [decide_eq_false (by omega)]
   rfl
  rw [e]; exact h
end Go.Proofs.YtmpilgkfbibhlaaGreatDoor
