/-
 Check at each kind of events.
-/
import Derived.Test.YtmpilgkfbibhlaaGreatDoorG9Verifies
set_option linter.unusedSimpArgs false
set_option linter.unusedVariables false
namespace Go.Proofs.YtmpilgkfbibhlaaGreatDoor
open Sx Go.RowKit
def chkB (least fa fb t a b : Int) (p q : Bool) : Bool :=
 bif !(bif decide (t ≥ 0) then decide (t ≤ 1099511627776) else false) then true else bif decide (a < least) then true else bif decide (a > fa) then true else bif decide (b < 0) then true else bif decide (b > fb) then true else bif !p then true else !q
def dmB (least fa fb t a b : Int) (x : Bool) : Bool :=
 (!(bif decide (t ≥ 0) then decide (t ≤ 1099511627776) else false)) || (decide (a < least) || (decide (a > fa) || (decide (b < 0) || (decide (b > fb) || x))))
theorem dmB_ok {least fa fb t a b : Int} {x : Bool} (h : x = true) : dmB least fa fb t a b x = true := by unfold dmB; rw [h]; simp
set_option maxRecDepth 100000 in
theorem chk_eval1 (t a b : Int) (nm ot : ByteArray) : res (evFn tbl [] spC 300 12 42 (evA 1 t a b nm ot) st0) = some ([dmB 1 4294967296 32 t a b (decide (nm.size ≤ 9223372036854775807))], .one (.i .i64 (bif chkB 1 4294967296 32 t a b (nameB nm) ((ot.toList == [])) then 2 else 0))) := by kernel_rfl
theorem Check_at1 (t a b : Int) (nm ot : ByteArray) (w : World) (hG : Glob0 w) (h1 : nm.size ≤ 1000000) (h2 : ot.size ≤ 1000000) :
  Calls Tryz.prog 42 #[.agg #[.int .i64 1, .int .i64 t, .int .i64 a, .int .i64 b, .string nm, .string ot]] w fun e w' => e = .returned (.int .i64 (bif chkB 1 4294967296 32 t a b (nameB nm) ((ot.toList == [])) then 2 else 0)) ∧ Below w.heap.size w w' := by
 have h := res_any tbl_ok tbl_any spC_ok (fun x hx => by
  obtain rfl := List.mem_singleton.1 hx
  rfl) (chk_eval1 t a b nm ot) (fun x hx => by
  simp only [List.mem_cons, List.not_mem_nil, or_false] at hx; rcases hx with rfl <;> exact dmB_ok (by simp; omega)) w hG
 exact h
set_option maxRecDepth 100000 in
theorem chk_eval2 (t a b : Int) (nm ot : ByteArray) : res (evFn tbl [] spC 300 12 42 (evA 2 t a b nm ot) st0) = some ([], .one (.i .i64 (bif chkB 0 1099511627776 1099511627776 t a b ((nm.toList == [])) ((ot.toList == [])) then 2 else 0))) := by kernel_rfl
theorem Check_at2 (t a b : Int) (nm ot : ByteArray) (w : World) (hG : Glob0 w) (h1 : nm.size ≤ 1000000) (h2 : ot.size ≤ 1000000) :
  Calls Tryz.prog 42 #[.agg #[.int .i64 2, .int .i64 t, .int .i64 a, .int .i64 b, .string nm, .string ot]] w fun e w' => e = .returned (.int .i64 (bif chkB 0 1099511627776 1099511627776 t a b ((nm.toList == [])) ((ot.toList == [])) then 2 else 0)) ∧ Below w.heap.size w w' := by
 have h := res_any tbl_ok tbl_any spC_ok (fun x hx => by
  obtain rfl := List.mem_singleton.1 hx
  rfl) (chk_eval2 t a b nm ot) (fun x hx => by
  cases hx) w hG
 exact h
set_option maxRecDepth 100000 in
theorem chk_eval3 (t a b : Int) (nm ot : ByteArray) : res (evFn tbl [] spC 300 12 42 (evA 3 t a b nm ot) st0) = some ([], .one (.i .i64 (bif chkB 0 4294967296 0 t a b ((nm.toList == [])) ((ot.toList == [])) then 2 else 0))) := by kernel_rfl
theorem Check_at3 (t a b : Int) (nm ot : ByteArray) (w : World) (hG : Glob0 w) (h1 : nm.size ≤ 1000000) (h2 : ot.size ≤ 1000000) :
  Calls Tryz.prog 42 #[.agg #[.int .i64 3, .int .i64 t, .int .i64 a, .int .i64 b, .string nm, .string ot]] w fun e w' => e = .returned (.int .i64 (bif chkB 0 4294967296 0 t a b ((nm.toList == [])) ((ot.toList == [])) then 2 else 0)) ∧ Below w.heap.size w w' := by
 have h := res_any tbl_ok tbl_any spC_ok (fun x hx => by
  obtain rfl := List.mem_singleton.1 hx
  rfl) (chk_eval3 t a b nm ot) (fun x hx => by
  cases hx) w hG
 exact h
set_option maxRecDepth 100000 in
theorem chk_eval4 (t a b : Int) (nm ot : ByteArray) : res (evFn tbl [] spC 300 12 42 (evA 4 t a b nm ot) st0) = some ([], .one (.i .i64 (bif chkB 1 12 0 t a b ((nm.toList == [])) ((ot.toList == [])) then 2 else 0))) := by kernel_rfl
theorem Check_at4 (t a b : Int) (nm ot : ByteArray) (w : World) (hG : Glob0 w) (h1 : nm.size ≤ 1000000) (h2 : ot.size ≤ 1000000) :
  Calls Tryz.prog 42 #[.agg #[.int .i64 4, .int .i64 t, .int .i64 a, .int .i64 b, .string nm, .string ot]] w fun e w' => e = .returned (.int .i64 (bif chkB 1 12 0 t a b ((nm.toList == [])) ((ot.toList == [])) then 2 else 0)) ∧ Below w.heap.size w w' := by
 have h := res_any tbl_ok tbl_any spC_ok (fun x hx => by
  obtain rfl := List.mem_singleton.1 hx
  rfl) (chk_eval4 t a b nm ot) (fun x hx => by
  cases hx) w hG
 exact h
set_option maxRecDepth 100000 in
theorem chk_eval5 (t a b : Int) (nm ot : ByteArray) : res (evFn tbl [] spC 300 12 42 (evA 5 t a b nm ot) st0) = some ([dmB 0 0 0 t a b (decide (nm.size ≤ 1000000)), dmB 0 0 0 t a b ((!modB nm || decide (ot.size ≤ 9223372036854775807)))], .one (.i .i64 (bif chkB 0 0 0 t a b (modB nm) (nameB ot) then 2 else 0))) := by kernel_rfl
theorem Check_at5 (t a b : Int) (nm ot : ByteArray) (w : World) (hG : Glob0 w) (h1 : nm.size ≤ 1000000) (h2 : ot.size ≤ 1000000) :
  Calls Tryz.prog 42 #[.agg #[.int .i64 5, .int .i64 t, .int .i64 a, .int .i64 b, .string nm, .string ot]] w fun e w' => e = .returned (.int .i64 (bif chkB 0 0 0 t a b (modB nm) (nameB ot) then 2 else 0)) ∧ Below w.heap.size w w' := by
 have h := res_any tbl_ok tbl_any spC_ok (fun x hx => by
  obtain rfl := List.mem_singleton.1 hx
  rfl) (chk_eval5 t a b nm ot) (fun x hx => by
  simp only [List.mem_cons, List.not_mem_nil, or_false] at hx; rcases hx with rfl | rfl <;> exact dmB_ok (by simp; omega)) w hG
 exact h
set_option maxRecDepth 100000 in
theorem chk_eval6 (t a b : Int) (nm ot : ByteArray) : res (evFn tbl [] spC 300 12 42 (evA 6 t a b nm ot) st0) = some ([dmB 0 0 0 t a b (decide (nm.size ≤ 1000000)), dmB 0 0 0 t a b ((!modB nm || decide (ot.size ≤ 9223372036854775807)))], .one (.i .i64 (bif chkB 0 0 0 t a b (modB nm) (nameB ot) then 2 else 0))) := by kernel_rfl
theorem Check_at6 (t a b : Int) (nm ot : ByteArray) (w : World) (hG : Glob0 w) (h1 : nm.size ≤ 1000000) (h2 : ot.size ≤ 1000000) :
  Calls Tryz.prog 42 #[.agg #[.int .i64 6, .int .i64 t, .int .i64 a, .int .i64 b, .string nm, .string ot]] w fun e w' => e = .returned (.int .i64 (bif chkB 0 0 0 t a b (modB nm) (nameB ot) then 2 else 0)) ∧ Below w.heap.size w w' := by
 have h := res_any tbl_ok tbl_any spC_ok (fun x hx => by
  obtain rfl := List.mem_singleton.1 hx
  rfl) (chk_eval6 t a b nm ot) (fun x hx => by
  simp only [List.mem_cons, List.not_mem_nil, or_false] at hx; rcases hx with rfl | rfl <;> exact dmB_ok (by simp; omega)) w hG
 exact h
set_option maxRecDepth 100000 in
theorem chk_eval7 (t a b : Int) (nm ot : ByteArray) : res (evFn tbl [] spC 300 12 42 (evA 7 t a b nm ot) st0) = some ([dmB 0 0 0 t a b (decide (nm.size ≤ 9223372036854775807))], .one (.i .i64 (bif chkB 0 0 0 t a b (nameB nm) ((ot.toList == [])) then 2 else 0))) := by kernel_rfl
theorem Check_at7 (t a b : Int) (nm ot : ByteArray) (w : World) (hG : Glob0 w) (h1 : nm.size ≤ 1000000) (h2 : ot.size ≤ 1000000) :
  Calls Tryz.prog 42 #[.agg #[.int .i64 7, .int .i64 t, .int .i64 a, .int .i64 b, .string nm, .string ot]] w fun e w' => e = .returned (.int .i64 (bif chkB 0 0 0 t a b (nameB nm) ((ot.toList == [])) then 2 else 0)) ∧ Below w.heap.size w w' := by
 have h := res_any tbl_ok tbl_any spC_ok (fun x hx => by
  obtain rfl := List.mem_singleton.1 hx
  rfl) (chk_eval7 t a b nm ot) (fun x hx => by
  simp only [List.mem_cons, List.not_mem_nil, or_false] at hx; rcases hx with rfl <;> exact dmB_ok (by simp; omega)) w hG
 exact h
set_option maxRecDepth 100000 in
theorem chk_eval8 (t a b : Int) (nm ot : ByteArray) : res (evFn tbl [] spC 300 12 42 (evA 8 t a b nm ot) st0) = some ([dmB 0 0 0 t a b (decide (nm.size ≤ 9223372036854775807))], .one (.i .i64 (bif chkB 0 0 0 t a b (nameB nm) ((ot.toList == [])) then 2 else 0))) := by kernel_rfl
theorem Check_at8 (t a b : Int) (nm ot : ByteArray) (w : World) (hG : Glob0 w) (h1 : nm.size ≤ 1000000) (h2 : ot.size ≤ 1000000) :
  Calls Tryz.prog 42 #[.agg #[.int .i64 8, .int .i64 t, .int .i64 a, .int .i64 b, .string nm, .string ot]] w fun e w' => e = .returned (.int .i64 (bif chkB 0 0 0 t a b (nameB nm) ((ot.toList == [])) then 2 else 0)) ∧ Below w.heap.size w w' := by
 have h := res_any tbl_ok tbl_any spC_ok (fun x hx => by
  obtain rfl := List.mem_singleton.1 hx
  rfl) (chk_eval8 t a b nm ot) (fun x hx => by
  simp only [List.mem_cons, List.not_mem_nil, or_false] at hx; rcases hx with rfl <;> exact dmB_ok (by simp; omega)) w hG
 exact h
set_option maxRecDepth 100000 in
theorem chk_eval9 (t a b : Int) (nm ot : ByteArray) : res (evFn tbl [] spC 300 12 42 (evA 9 t a b nm ot) st0) = some ([], .one (.i .i64 (bif chkB 0 0 0 t a b ((nm.toList == [])) ((ot.toList == [])) then 2 else 0))) := by kernel_rfl
theorem Check_at9 (t a b : Int) (nm ot : ByteArray) (w : World) (hG : Glob0 w) (h1 : nm.size ≤ 1000000) (h2 : ot.size ≤ 1000000) :
  Calls Tryz.prog 42 #[.agg #[.int .i64 9, .int .i64 t, .int .i64 a, .int .i64 b, .string nm, .string ot]] w fun e w' => e = .returned (.int .i64 (bif chkB 0 0 0 t a b ((nm.toList == [])) ((ot.toList == [])) then 2 else 0)) ∧ Below w.heap.size w w' := by
 have h := res_any tbl_ok tbl_any spC_ok (fun x hx => by
  obtain rfl := List.mem_singleton.1 hx
  rfl) (chk_eval9 t a b nm ot) (fun x hx => by
  cases hx) w hG
 exact h
end Go.Proofs.YtmpilgkfbibhlaaGreatDoor
