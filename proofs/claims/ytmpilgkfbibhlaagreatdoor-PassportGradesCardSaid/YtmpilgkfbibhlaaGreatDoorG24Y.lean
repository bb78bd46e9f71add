/-
 Verify of package passport.
-/
import Derived.Test.YtmpilgkfbibhlaaGreatDoorG21Y
set_option linter.unusedSimpArgs false
set_option linter.unusedVariables false
namespace Go.Proofs.YtmpilgkfbibhlaaGreatDoor
open Sx Go.RowKit Mr
theorem verR_1 {pt : Nat} {bks : List Bk} {name : ByteArray} {l : List Ent} (h : secR pt bks ≠ 0) : verR pt bks name l = (0, false, secR pt bks) := by unfold verR; rw [if_pos h]
theorem verR_2 {pt : Nat} {bks : List Bk} {name : ByteArray} {l : List Ent} (h : secR pt bks = 0) (h2 : nameB name = false) : verR pt bks name l = (0, false, 2) := by unfold verR; rw [if_neg (by simp [h]), if_pos h2]
theorem verR_3 {pt : Nat} {bks : List Bk} {name : ByteArray} {l : List Ent} (h : secR pt bks = 0) (h2 : nameB name = true) (h3 : 500 < l.length) : verR pt bks name l = (0, false, 6) := by unfold verR; rw [if_neg (by simp [h]), if_neg (by simp [h2]), if_pos h3]
theorem verR_4 {pt : Nat} {bks : List Bk} {name : ByteArray} {l : List Ent} (h : secR pt bks = 0) (h2 : nameB name = true) (h3 : ¬ 500 < l.length) : verR pt bks name l = (verN pt bks name [] l, decide (verN pt bks name [] l = l.length), 0) := by unfold verR; rw [if_neg (by simp [h]), if_neg (by simp [h2]), if_neg h3]
set_option maxHeartbeats 4000000 in
set_option maxRecDepth 20000 in
theorem Verify_1 {a ab : Option Addr} {es : List Ent} {bks : List Bk} {w : World} (pt c cb : Nat) (name : ByteArray) (hE : EntAt a es w) (hB : BksAt ab bks w) (hG : Glob0 w)
  (hes : es.length ≤ 1000000 ∧ ∀ y ∈ es, y.1.2.2.2.2.1.size ≤ 100 ∧ y.1.2.2.2.2.2.size ≤ 100) (hbl : bks.length ≤ 1000000 ∧ ∀ bk ∈ bks, bk.2.length ≤ 1000000) (hnm : name.size ≤ 1000) (h1 : secR pt bks ≠ 0) :
  Calls Tryz.prog 12 #[.int .u64 (pt : Int), .slice ab bks.length cb, .string name, .slice a es.length c] w fun e w' => e = .returned (verV (verR pt bks name es)) ∧ Below w.heap.size w w' := by
 have CS := Lib.hid (Secrets_any pt cb hB hbl)
 rw [verR_1 h1]
 unfold verV
 have hr : (secR pt bks == 0) = false := by simpa using h1
 generalize secR pt bks = r at *
 clear hE hB hG hes hbl hnm h1
 go_enter Tryz.func12, Tryz.ntmps12
 go_wp2_with (go_at_call 38; refine CS.out.mono ?_; rintro e w1 ⟨rfl, hb1⟩)
 exact bodyPost_ret (v := .tuple #[.int .i64 0, .bool false, .int .i64 r]) (by simp only [results, Tryz.results12]; go_simp) rfl ⟨rfl, hb1⟩
set_option maxHeartbeats 4000000 in
set_option maxRecDepth 20000 in
theorem Verify_2 {a ab : Option Addr} {es : List Ent} {bks : List Bk} {w : World} (pt c cb : Nat) (name : ByteArray) (hE : EntAt a es w) (hB : BksAt ab bks w) (hG : Glob0 w)
  (hes : es.length ≤ 1000000 ∧ ∀ y ∈ es, y.1.2.2.2.2.1.size ≤ 100 ∧ y.1.2.2.2.2.2.size ≤ 100) (hbl : bks.length ≤ 1000000 ∧ ∀ bk ∈ bks, bk.2.length ≤ 1000000) (hnm : name.size ≤ 1000) (h1 : secR pt bks = 0) (h2 : nameB name = false) :
  Calls Tryz.prog 12 #[.int .u64 (pt : Int), .slice ab bks.length cb, .string name, .slice a es.length c] w fun e w' => e = .returned (verV (verR pt bks name es)) ∧ Below w.heap.size w w' := by
 have CS := Lib.hid (Secrets_any pt cb hB hbl)
 have CN := Lib.hid (fun W => isName_any name W (by omega))
 rw [verR_2 h1 h2]
 unfold verV
 rw [h1] at CS
 rw [h2] at CN
 clear hE hB hG hes hbl hnm h1 h2
 go_enter Tryz.func12, Tryz.ntmps12
 go_wp2_with (first | (go_at_call 38; refine CS.out.mono ?_; rintro e w1 ⟨rfl, hb1⟩) | (go_at_call 39; refine (CN.out _).mono ?_; rintro e w2 ⟨rfl, hb2⟩))
 exact bodyPost_ret (v := .tuple #[.int .i64 0, .bool false, .int .i64 2]) (by simp only [results, Tryz.results12]; go_simp) rfl ⟨rfl, bStep hb1 hb2⟩
set_option maxHeartbeats 4000000 in
set_option maxRecDepth 20000 in
theorem Verify_3 {a ab : Option Addr} {es : List Ent} {bks : List Bk} {w : World} (pt c cb : Nat) (name : ByteArray) (hE : EntAt a es w) (hB : BksAt ab bks w) (hG : Glob0 w)
  (hes : es.length ≤ 1000000 ∧ ∀ y ∈ es, y.1.2.2.2.2.1.size ≤ 100 ∧ y.1.2.2.2.2.2.size ≤ 100) (hbl : bks.length ≤ 1000000 ∧ ∀ bk ∈ bks, bk.2.length ≤ 1000000) (hnm : name.size ≤ 1000) (h1 : secR pt bks = 0) (h2 : nameB name = true) (h3 : 500 < es.length) :
  Calls Tryz.prog 12 #[.int .u64 (pt : Int), .slice ab bks.length cb, .string name, .slice a es.length c] w fun e w' => e = .returned (verV (verR pt bks name es)) ∧ Below w.heap.size w w' := by
 have CS := Lib.hid (Secrets_any pt cb hB hbl)
 have CN := Lib.hid (fun W => isName_any name W (by omega))
 rw [verR_3 h1 h2 h3]
 unfold verV
 rw [h1] at CS
 rw [h2] at CN
 have h4 : (500 : Int) < es.length := by omega
 clear hE hB hG hes hbl hnm h1 h2 h3
 go_enter Tryz.func12, Tryz.ntmps12
 go_wp2_with (first | (go_at_call 38; refine CS.out.mono ?_; rintro e w1 ⟨rfl, hb1⟩) | (go_at_call 39; refine (CN.out _).mono ?_; rintro e w2 ⟨rfl, hb2⟩))
 exact bodyPost_ret (v := .tuple #[.int .i64 0, .bool false, .int .i64 6]) (by simp only [results, Tryz.results12]; go_simp) rfl ⟨rfl, bStep hb1 hb2⟩
end Go.Proofs.YtmpilgkfbibhlaaGreatDoor
