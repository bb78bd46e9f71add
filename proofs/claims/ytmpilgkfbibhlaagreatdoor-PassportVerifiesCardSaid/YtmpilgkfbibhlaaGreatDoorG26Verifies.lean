/-
 The reference's Check.
-/
import Derived.Test.YtmpilgkfbibhlaaGreatDoorG25Verifies
import Derived.Test.YtmpilgkfbibhlaaGreatDoorG11Verifies
set_option linter.unusedSimpArgs false
set_option linter.unusedVariables false
namespace Go.Proofs.YtmpilgkfbibhlaaGreatDoor
open Sx Go.RowKit
def rT (k t : Int) : Bool := bif decide (k < 1) then true else bif decide (k > 9) then true else !(bif decide (t ≥ 0) then decide (t ≤ 1099511627776) else false)
def rM (k : Int) (nm : ByteArray) : Bool := (k == 1 || (k == 2 || (k == 3 || (k == 4 || ((!(bif k == 5 then k == 5 else k == 6)) || decide (nm.size ≤ 1000000))))))
def rA (k a : Int) : Bool := !(bif decide (a ≥ (bif k == 1 then 1 else bif k == 2 then 0 else bif k == 3 then 0 else bif k == 4 then 1 else 0)) then decide (a ≤ (bif k == 1 then 4294967296 else bif k == 2 then 1099511627776 else bif k == 3 then 4294967296 else bif k == 4 then 12 else 0)) else false)
def rB (k b : Int) : Bool := !(bif decide (b ≥ 0) then decide (b ≤ (bif k == 1 then 32 else bif k == 2 then 1099511627776 else 0)) else false)
def rNd (k : Int) : Bool := bif k == 1 then true else bif decide (k ≥ 5) then decide (k ≤ 8) else false
def rMv (k : Int) : Bool := bif k == 5 then true else k == 6
def rNm (k : Int) (nm : ByteArray) : Bool := bif k == 1 then nameB nm else bif k == 2 then false else bif k == 3 then false else bif k == 4 then false else bif (bif k == 5 then k == 5 else k == 6) then modB nm else bif (bif k == 7 then k == 7 else k == 8) then nameB nm else false
def rOt (k : Int) (ot : ByteArray) : Bool := bif k == 1 then false else bif k == 2 then false else bif k == 3 then false else bif k == 4 then false else bif (bif k == 5 then k == 5 else k == 6) then nameB ot else false
def rO (k : Int) (ot : ByteArray) : Bool := bif !(rMv k == rOt k ot) then true else bif !(rMv k) then !(ot.toList == (⟨#[]⟩ : ByteArray).toList) else false
def rX (k t a b : Int) (nm ot : ByteArray) : Int := bif rT k t then 2 else bif (bif rA k a then true else bif rB k b then true else bif !(rNd k == rNm k nm) then true else bif !(rNd k) then (bif !(nm.toList == (⟨#[]⟩ : ByteArray).toList) then true else rO k ot) else rO k ot) then 2 else 0
set_option maxRecDepth 100000 in
theorem rchk_eval (k t a b : Int) (nm ot : ByteArray) : res (evFn tbl [] spR 300 12 49 [.agg [.i .i64 k false, .i .i64 t false, .i .i64 a false, .i .i64 b false, .s nm false, .s ot false]] st0) = some ([rT k t || rM k nm], .one (.i .i64 (rX k t a b nm ot))) := by kernel_rfl
theorem RCheck_at (k t a b : Int) (nm ot : ByteArray) (w : World) (hG : Glob0 w) (h1 : nm.size ≤ 1000000) :
  Calls Tryz.prog 49 #[.agg #[.int .i64 k, .int .i64 t, .int .i64 a, .int .i64 b, .string nm, .string ot]] w fun e w' => e = .returned (.int .i64 (rX k t a b nm ot)) ∧ Below w.heap.size w w' := by
 have h := res_any tbl_ok tbl_any spR_ok (fun x hx => by
  obtain rfl := List.mem_singleton.1 hx
  rfl) (rchk_eval k t a b nm ot) (fun x hx => by
  obtain rfl := List.mem_singleton.1 hx
  have e : rM k nm = true := by
   unfold rM
   rw [decide_eq_true h1]
   simp
  rw [e, Bool.or_true]) w hG
 exact h
theorem em_toL : (⟨#[]⟩ : ByteArray).toList = [] := by rw [Lib.toList_data]
theorem rX_core {T : Bool} {t a b l fa fb : Int} {p q c : Bool} (hT : T = !(bif decide (t ≥ 0) then decide (t ≤ 1099511627776) else false)) (hc : c = (bif !p then true else !q)) :
  (bif T then (2 : Int) else bif (bif (!(bif decide (a ≥ l) then decide (a ≤ fa) else false)) then true else bif (!(bif decide (b ≥ 0) then decide (b ≤ fb) else false)) then true else c) then 2 else 0) = bif !(chkB l fa fb t a b p q) then 0 else 2 := by
 subst hT; subst hc
 unfold chkB
 by_cases h1 : t ≥ 0 <;> by_cases h2 : t ≤ 1099511627776 <;> by_cases h3 : a ≥ l <;> by_cases h4 : a ≤ fa <;> by_cases h5 : b ≥ 0 <;> by_cases h6 : b ≤ fb <;>
  (first | rw [decide_eq_true h1] | rw [decide_eq_false h1]) <;> (first | rw [decide_eq_true h2] | rw [decide_eq_false h2]) <;> (first | rw [decide_eq_true h3] | rw [decide_eq_false h3]) <;> (first | rw [decide_eq_true h4] | rw [decide_eq_false h4]) <;> (first | rw [decide_eq_true h5] | rw [decide_eq_false h5]) <;> (first | rw [decide_eq_true h6] | rw [decide_eq_false h6]) <;>
  (first | rw [decide_eq_true (show a < l by omega)] | rw [decide_eq_false (show ¬ a < l by omega)]) <;> (first | rw [decide_eq_true (show a > fa by omega)] | rw [decide_eq_false (show ¬ a > fa by omega)]) <;> (first | rw [decide_eq_true (show b < 0 by omega)] | rw [decide_eq_false (show ¬ b < 0 by omega)]) <;> (first | rw [decide_eq_true (show b > fb by omega)] | rw [decide_eq_false (show ¬ b > fb by omega)]) <;>
  cases p <;> cases q <;> rfl
theorem rX_is (k t a b : Int) (nm ot : ByteArray) (h1 : nm.size ≤ 1000000) (h2 : ot.size ≤ 1000000) : rX k t a b nm ot = (bif okE k t a b nm ot then 0 else 2) := by
 by_cases hk : 1 ≤ k ∧ k ≤ 9
 ·have e : okE k t a b nm ot = !chkE k t a b nm ot := by
   unfold okE
   rw [decide_eq_true ⟨hk.1, hk.2, h1, h2⟩, Bool.true_and]
  rw [e]
  have hc : k = 1 ∨ k = 2 ∨ k = 3 ∨ k = 4 ∨ k = 5 ∨ k = 6 ∨ k = 7 ∨ k = 8 ∨ k = 9 := by omega
  have hz := em_toL
  rcases hc with rfl | rfl | rfl | rfl | rfl | rfl | rfl | rfl | rfl
  ·show (bif rT 1 t then (2 : Int) else bif (bif (!(bif decide (a ≥ 1) then decide (a ≤ 4294967296) else false)) then true else bif (!(bif decide (b ≥ 0) then decide (b ≤ 32) else false)) then true else _) then 2 else 0) = bif !(chkB 1 4294967296 32 t a b (nameB nm) ((ot.toList == []))) then 0 else 2
   exact rX_core (by rfl) (by
    rw [show rNm 1 nm = nameB nm from rfl, show rNd 1 = true from rfl]
    unfold rO
    rw [show rOt 1 ot = false from rfl, show rMv 1 = false from rfl, hz]
    cases nameB nm <;> cases (ot.toList == []) <;> rfl)
  ·show (bif rT 2 t then (2 : Int) else bif (bif (!(bif decide (a ≥ 0) then decide (a ≤ 1099511627776) else false)) then true else bif (!(bif decide (b ≥ 0) then decide (b ≤ 1099511627776) else false)) then true else _) then 2 else 0) = bif !(chkB 0 1099511627776 1099511627776 t a b ((nm.toList == [])) ((ot.toList == []))) then 0 else 2
   exact rX_core (by rfl) (by
    rw [show rNm 2 nm = false from rfl, show rNd 2 = false from rfl]
    unfold rO
    rw [show rOt 2 ot = false from rfl, show rMv 2 = false from rfl, hz]
    cases (nm.toList == []) <;> cases (ot.toList == []) <;> rfl)
  ·show (bif rT 3 t then (2 : Int) else bif (bif (!(bif decide (a ≥ 0) then decide (a ≤ 4294967296) else false)) then true else bif (!(bif decide (b ≥ 0) then decide (b ≤ 0) else false)) then true else _) then 2 else 0) = bif !(chkB 0 4294967296 0 t a b ((nm.toList == [])) ((ot.toList == []))) then 0 else 2
   exact rX_core (by rfl) (by
    rw [show rNm 3 nm = false from rfl, show rNd 3 = false from rfl]
    unfold rO
    rw [show rOt 3 ot = false from rfl, show rMv 3 = false from rfl, hz]
    cases (nm.toList == []) <;> cases (ot.toList == []) <;> rfl)
  ·show (bif rT 4 t then (2 : Int) else bif (bif (!(bif decide (a ≥ 1) then decide (a ≤ 12) else false)) then true else bif (!(bif decide (b ≥ 0) then decide (b ≤ 0) else false)) then true else _) then 2 else 0) = bif !(chkB 1 12 0 t a b ((nm.toList == [])) ((ot.toList == []))) then 0 else 2
   exact rX_core (by rfl) (by
    rw [show rNm 4 nm = false from rfl, show rNd 4 = false from rfl]
    unfold rO
    rw [show rOt 4 ot = false from rfl, show rMv 4 = false from rfl, hz]
    cases (nm.toList == []) <;> cases (ot.toList == []) <;> rfl)
  ·show (bif rT 5 t then (2 : Int) else bif (bif (!(bif decide (a ≥ 0) then decide (a ≤ 0) else false)) then true else bif (!(bif decide (b ≥ 0) then decide (b ≤ 0) else false)) then true else _) then 2 else 0) = bif !(chkB 0 0 0 t a b (modB nm) (nameB ot)) then 0 else 2
   exact rX_core (by rfl) (by
    rw [show rNm 5 nm = modB nm from rfl, show rNd 5 = true from rfl]
    unfold rO
    rw [show rOt 5 ot = nameB ot from rfl, show rMv 5 = true from rfl, hz]
    cases modB nm <;> cases nameB ot <;> rfl)
  ·show (bif rT 6 t then (2 : Int) else bif (bif (!(bif decide (a ≥ 0) then decide (a ≤ 0) else false)) then true else bif (!(bif decide (b ≥ 0) then decide (b ≤ 0) else false)) then true else _) then 2 else 0) = bif !(chkB 0 0 0 t a b (modB nm) (nameB ot)) then 0 else 2
   exact rX_core (by rfl) (by
    rw [show rNm 6 nm = modB nm from rfl, show rNd 6 = true from rfl]
    unfold rO
    rw [show rOt 6 ot = nameB ot from rfl, show rMv 6 = true from rfl, hz]
    cases modB nm <;> cases nameB ot <;> rfl)
  ·show (bif rT 7 t then (2 : Int) else bif (bif (!(bif decide (a ≥ 0) then decide (a ≤ 0) else false)) then true else bif (!(bif decide (b ≥ 0) then decide (b ≤ 0) else false)) then true else _) then 2 else 0) = bif !(chkB 0 0 0 t a b (nameB nm) ((ot.toList == []))) then 0 else 2
   exact rX_core (by rfl) (by
    rw [show rNm 7 nm = nameB nm from rfl, show rNd 7 = true from rfl]
    unfold rO
    rw [show rOt 7 ot = false from rfl, show rMv 7 = false from rfl, hz]
    cases nameB nm <;> cases (ot.toList == []) <;> rfl)
  ·show (bif rT 8 t then (2 : Int) else bif (bif (!(bif decide (a ≥ 0) then decide (a ≤ 0) else false)) then true else bif (!(bif decide (b ≥ 0) then decide (b ≤ 0) else false)) then true else _) then 2 else 0) = bif !(chkB 0 0 0 t a b (nameB nm) ((ot.toList == []))) then 0 else 2
   exact rX_core (by rfl) (by
    rw [show rNm 8 nm = nameB nm from rfl, show rNd 8 = true from rfl]
    unfold rO
    rw [show rOt 8 ot = false from rfl, show rMv 8 = false from rfl, hz]
    cases nameB nm <;> cases (ot.toList == []) <;> rfl)
  ·show (bif rT 9 t then (2 : Int) else bif (bif (!(bif decide (a ≥ 0) then decide (a ≤ 0) else false)) then true else bif (!(bif decide (b ≥ 0) then decide (b ≤ 0) else false)) then true else _) then 2 else 0) = bif !(chkB 0 0 0 t a b ((nm.toList == [])) ((ot.toList == []))) then 0 else 2
   exact rX_core (by rfl) (by
    rw [show rNm 9 nm = false from rfl, show rNd 9 = false from rfl]
    unfold rO
    rw [show rOt 9 ot = false from rfl, show rMv 9 = false from rfl, hz]
    cases (nm.toList == []) <;> cases (ot.toList == []) <;> rfl)
 ·have e : okE k t a b nm ot = false := by
   unfold okE
   rw [decide_eq_false (by omega)]
   rfl
  have e2 : rT k t = true := by
   unfold rT
   by_cases h : k < 1
   ·rw [decide_eq_true h]; rfl
   ·rw [decide_eq_false h, decide_eq_true (by omega)]; rfl
  rw [e]
  unfold rX
  rw [e2]
  rfl
theorem RCheck_any (k t a b : Int) (nm ot : ByteArray) (w : World) (hG : Glob0 w) (h1 : nm.size ≤ 1000000) (h2 : ot.size ≤ 1000000) :
  Calls Tryz.prog 49 #[.agg #[.int .i64 k, .int .i64 t, .int .i64 a, .int .i64 b, .string nm, .string ot]] w fun e w' => e = .returned (.int .i64 (bif okE k t a b nm ot then 0 else 2)) ∧ Below w.heap.size w w' := by
 have h := RCheck_at k t a b nm ot w hG h1
 rw [rX_is k t a b nm ot h1 h2] at h
 exact h
end Go.Proofs.YtmpilgkfbibhlaaGreatDoor
