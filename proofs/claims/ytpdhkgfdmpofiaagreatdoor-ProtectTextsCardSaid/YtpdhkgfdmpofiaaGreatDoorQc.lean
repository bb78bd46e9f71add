/-
  The reference's Digits and Number.
-/
import Derived.Test.YtpdhkgfdmpofiaaGreatDoorQb
import Derived.Test.YtpdhkgfdmpofiaaGreatDoorQs
set_option linter.unusedSimpArgs false
set_option linter.unusedVariables false
namespace Go.Proofs.YtpdhkgfdmpofiaaGreatDoor
open Sx Go.RowKit
theorem ba_app (a b : List UInt8) : (ByteArray.mk a.toArray) ++ (ByteArray.mk b.toArray) = ⟨(a ++ b).toArray⟩ := ba_inj (by simp)
theorem dig_one {d : Nat} (h : d < 10) : Lib.decDigits d = [UInt8.ofNat (48 + d)] := Lib.decDigits_one h
set_option maxHeartbeats 1000000 in
set_option maxRecDepth 20000 in
theorem Digits_small (u : Nat) (h : u < 10) (w : World) : Calls Tryz.prog 20 #[.int .i64 (u : Int)] w fun e w' => e = .returned (.string ⟨(Lib.decDigits u).toArray⟩) ∧ Below w.heap.size w w' := by
  rw [dig_one h]
  have hc : u = 0 ∨ u = 1 ∨ u = 2 ∨ u = 3 ∨ u = 4 ∨ u = 5 ∨ u = 6 ∨ u = 7 ∨ u = 8 ∨ u = 9 := by omega
  rcases hc with rfl | rfl | rfl | rfl | rfl | rfl | rfl | rfl | rfl | rfl
  all_goals
    clear h
    go_enter Tryz.func20, Tryz.ntmps20
    go_wp2_with fail
    go_ret
    exact ⟨by first | rfl | decide +kernel, (by repeat' (first | exact Below.refl _ _ | assumption | apply bDrewN | apply bDrew | apply bAlloc | (refine bSet ?_ ?_ _) | (refine bStep ?_ (by assumption)) | omega | (simp <;> omega)))⟩
set_option maxHeartbeats 1000000 in
set_option maxRecDepth 20000 in
theorem Digits_nat : ∀ (u : Nat), u < 9223372036854775808 → ∀ w : World, Calls Tryz.prog 20 #[.int .i64 (u : Int)] w fun e w' => e = .returned (.string ⟨(Lib.decDigits u).toArray⟩) ∧ Below w.heap.size w w' := by
  intro u
  induction u using Nat.strongRecOn with
  | ind u ih =>
    intro hu w
    by_cases h : u < 10
    · exact Digits_small u h w
    · have C1 := ih (u / 10) (by omega) (by omega)
      have C2 := ih (u % 10) (by omega) (by omega)
      rw [dec_step h]
      rw [dig_one (show u % 10 < 10 by omega)] at C2
      have hl := dec_le (k := 19) (u := u / 10) (by decide) (by omega)
      have e1 : ((u / 10 : Nat) : Int) = (u : Int) / 10 := by omega
      have e2 : ((u % 10 : Nat) : Int) = (u : Int) % 10 := by omega
      rw [e1] at C1
      rw [e2] at C2
      have h1 : ¬ (u : Int) < 0 := by omega
      have h2 : 9 < (u : Int) := by omega
      generalize Lib.decDigits (u / 10) = x at *
      generalize UInt8.ofNat (48 + u % 10) = c at *
      have h3 : ¬ 9223372036854775807 < x.length + 1 := by omega
      have h4 : x.length + 1 ≤ 9223372036854775807 := by omega
      have K1 := Lib.hid C1
      have K2 := Lib.hid C2
      clear ih h hl C1 C2 e1 e2
      go_enter Tryz.func20, Tryz.ntmps20
      go_wp2_with (go_at_call 20; first
        | (with_reducible refine (K1.out _).mono ?_; rintro e w1 ⟨rfl, hb1⟩)
        | (with_reducible refine (K2.out _).mono ?_; rintro e w2 ⟨rfl, hb2⟩))
      go_ret
      exact ⟨by rw [← ba_app]; rfl, (by repeat' (first | exact Below.refl _ _ | assumption | apply bDrewN | apply bDrew | apply bAlloc | (refine bSet ?_ ?_ _) | (refine bStep ?_ (by assumption)) | omega | (simp <;> omega)))⟩
set_option maxHeartbeats 1000000 in
set_option maxRecDepth 20000 in
theorem Digits_any (n : Int) (h0 : -9223372036854775808 < n) (h1 : n ≤ 9223372036854775807) (w : World) : Calls Tryz.prog 20 #[.int .i64 n] w fun e w' => e = .returned (.string ⟨(Lib.itoa n).toArray⟩) ∧ Below w.heap.size w w' := by
  rcases itoa_cases n with ⟨u, rfl, e⟩ | ⟨u, hu, rfl, e⟩
  · rw [e]; exact Digits_nat u (by omega) w
  · rw [e]
    have C := Lib.hid (Digits_nat u (by omega))
    have h2 : -(u : Int) < 0 := by omega
    have e1 : IntKind.i64.wrap (u : Int) = u := Go.IntWalk.i64_in _ ⟨by omega, by omega⟩
    have hl := dec_le (k := 19) (u := u) (by decide) (by omega)
    generalize Lib.decDigits u = x at *
    have h3 : ¬ 9223372036854775807 < 1 + x.length := by omega
    have h4 : 1 + x.length ≤ 9223372036854775807 := by omega
    clear e hl
    go_enter Tryz.func20, Tryz.ntmps20
    go_wp2_with (go_at_call 20; refine (C.out _).mono ?_; rintro e w1 ⟨rfl, hb1⟩)
    go_ret
    exact ⟨by rw [show (45 :: x) = [45] ++ x from rfl, ← ba_app]; rfl, (by repeat' (first | exact Below.refl _ _ | assumption | apply bDrewN | apply bDrew | apply bAlloc | (refine bSet ?_ ?_ _) | (refine bStep ?_ (by assumption)) | omega | (simp <;> omega)))⟩
set_option maxHeartbeats 2000000 in
set_option maxRecDepth 20000 in
theorem Number_any (s : ByteArray) (w : World) : Calls Tryz.prog 23 #[.string s] w fun e w' => (∃ v, e = .returned (.tuple #[.int .i64 v, .bool (isN s.data.toList)]) ∧ (isN s.data.toList = true → v = sv s.data.toList)) ∧ Below w.heap.size w w' := by
  have hsz : s.data.toList.length = s.size := (Lib.size_eq s).symm
  by_cases h14 : s.size ≤ 14
  · have h1 : (s.size : Int) ≤ 14 := by omega
    have hlt : Hid (∀ k, nvF (s.data.toList.take k) < 100000000000000) := fun k => by
      have h2 := nvF_lt (s.data.toList.take k)
      refine Nat.lt_of_lt_of_le h2 ?_
      exact Nat.le_trans (Nat.pow_le_pow_right (by decide) (by rw [List.length_take]; omega)) (show 10 ^ 14 ≤ 100000000000000 by decide)
    go_enter Tryz.func23, Tryz.ntmps23
    go_wp2_with fail
    go_loopw [4, 5] (fun n i wr => ∃ k : Nat, k ≤ s.size ∧ i = .int .i64 k ∧ n = .int .i64 (nvF (s.data.toList.take k) : Nat) ∧ Below w.heap.size w wr) (fun _ i _ => s.size - (intOf i).toNat)
    case atStart => exact ⟨0, by omega, rfl, by simp [nvF], (by repeat' (first | exact Below.refl _ _ | assumption | apply bDrewN | apply bDrew | apply bAlloc | (refine bSet ?_ ?_ _) | (refine bStep ?_ (by assumption)) | omega | (simp <;> omega)))⟩
    case round =>
      obtain ⟨k, hk, rfl, rfl, kB⟩ := hrel
      by_cases hk2 : k < s.size
      · have hk3 : (k : Int) < s.size := by omega
        have hkl : k < s.data.toList.length := by omega
        have hget : s.data.toList[k]'hkl = s[k] := Array.getElem_toList _
        have hnx : nvF (s.data.toList.take (k + 1)) = if 48 ≤ s[k].toNat ∧ s[k].toNat ≤ 57 then 10 * nvF (s.data.toList.take k) + (s[k].toNat - 48) else nvF (s.data.toList.take k) := by
          rw [List.take_succ_eq_append_getElem hkl, nvF_snoc, hget]
        have hl0 := hlt.out k
        have hl1 := hlt.out (k + 1)
        clear hget
        have hc : s[k].toNat < 256 := s[k].toNat_lt
        generalize hm1 : nvF (s.data.toList.take (k + 1)) = m1 at *
        generalize hm0 : nvF (s.data.toList.take k) = m at *
        have HM1 := Lib.hid hm1
        clear hm1 hm0
        by_cases hd : 48 ≤ s[k].toNat ∧ s[k].toNat ≤ 57
        · rw [if_pos hd] at hnx
          have hd1 : (48 : Int) ≤ (s[k].toNat : Int) := by omega
          have hd2 : (s[k].toNat : Int) ≤ 57 := by omega
          have HN := Lib.hid hnx
          have HD := Lib.hid hd
          clear hnx hd
          go_wp2_with fail
          refine ⟨⟨k + 1, by omega, by push_cast; rfl, ?_, kB⟩, by simp [intOf]; omega⟩
          rw [HM1.out, HN.out]
          have := HD.out
          congr 1
          omega
        · rw [if_neg hd] at hnx
          have HN := Lib.hid hnx
          clear hnx
          have hd1 : (s[k].toNat : Int) < 48 ∨ (48 ≤ (s[k].toNat : Int) ∧ 57 < (s[k].toNat : Int)) := by omega
          clear hd
          rcases hd1 with hd1 | ⟨hd1, hd2⟩
          all_goals
            go_wp2_with fail
            refine ⟨⟨k + 1, by omega, by push_cast; rfl, ?_, kB⟩, by simp [intOf]; omega⟩
            rw [HM1.out, HN.out]
      · obtain rfl : k = s.size := by omega
        have e : s.data.toList.take s.size = s.data.toList := List.take_of_length_le (by omega)
        rw [e]
        have hl0 := hlt.out s.size
        rw [e] at hl0
        clear e hlt hk hk2
        have hN : isN s.data.toList = decide (Lib.itoa (sv s.data.toList) = s.data.toList) := by unfold isN; rw [decide_eq_true (show s.data.toList.length ≤ 14 by omega), Bool.true_and]
        have hbd : -100000000000000 < sv s.data.toList ∧ sv s.data.toList < 100000000000000 := by
          unfold sv; split <;> omega
        have CD := Lib.hid (fun W => Digits_any (sv s.data.toList) (by omega) (by omega) W)
        clear hbd
        cases hl : s.data.toList with
        | nil =>
          obtain rfl : s = ⟨#[]⟩ := ba_inj (by rw [hl])
          have e1 : sv (ByteArray.mk #[]).data.toList = 0 := by rfl
          have e2 : nvF [] = 0 := by rfl
          have e3 : decide (Lib.itoa (sv []) = []) = false := decide_eq_false (itoa_ne' _)
          rw [show nvF (ByteArray.mk #[]).data.toList = 0 from rfl]
          have HN := Lib.hid (show isN (ByteArray.mk #[]).data.toList = false from hN.trans e3)
          rw [e1] at CD
          have e4 : (ByteArray.mk (Lib.itoa 0).toArray) = ⟨#[48]⟩ := by rw [show Lib.itoa 0 = [48] by rw [show (0 : Int) = ((0 : Nat) : Int) from rfl, Lib.itoa_nonneg, Lib.decDigits_one (by decide)]; rfl]
          rw [e4] at CD
          clear e1 e2 e3 e4 hl hl0 hsz h14 h1 hN
          go_wp2_with (go_at_call 20; with_reducible refine (CD.out _).mono ?_; rintro e w1 ⟨rfl, hb1⟩)
          exact bodyPost_ret (v := .tuple #[.int .i64 0, .bool false]) (by simp only [results, Tryz.results23]; go_simp) rfl ⟨⟨0, by rw [HN.out], fun h => by rw [HN.out] at h; cases h⟩, (by repeat' (first | exact Below.refl _ _ | assumption | apply bDrewN | apply bDrew | apply bAlloc | (refine bSet ?_ ?_ _) | (refine bStep ?_ (by assumption)) | omega | (simp <;> omega)))⟩
        | cons c r =>
          have hz : 0 < s.size := by rw [← hsz, hl]; simp
          have h0 : s[0]'hz = c := by
            have q : s.data.toList[0]'(by rw [hl]; simp) = s[0]'hz := Array.getElem_toList _
            rw [← q]
            simp [hl]
          have hz2 : 0 < (s.size : Int) := by omega
          have hn1 : ¬ s.toList = [] := by rw [Lib.toList_data, hl]; simp
          have hn3 : s.toList.isEmpty = false := by rw [Lib.toList_data, hl]; rfl
          have hn2 : ¬ s = ⟨#[]⟩ := fun q => by rw [q] at hl; cases hl
          have hsv : (c.toNat = 45 ∧ sv (c :: r) = -(nvF (c :: r) : Int)) ∨ (c.toNat ≠ 45 ∧ sv (c :: r) = nvF (c :: r)) := by
            unfold sv
            by_cases hc : c = 45
            · subst hc; exact .inl ⟨rfl, by simp⟩
            · exact .inr ⟨fun q => hc (UInt8.toNat_inj.1 q), by simp [hc]⟩
          rw [hl] at CD hl0 hN
          generalize hm : nvF (c :: r) = m at *
          have hS : Hid (∀ v, sv (c :: r) = v → sv (c :: r) = v) := fun _ h => h
          by_cases he : Lib.itoa (sv (c :: r)) = c :: r
          · have HN := Lib.hid (show isN s.data.toList = true from by rw [hl, hN, decide_eq_true he])
            have es : (ByteArray.mk (c :: r).toArray) = s := ba_inj (by rw [hl])
            rw [he, es] at CD
            rcases hsv with ⟨hc, hv⟩ | ⟨hc, hv⟩
            · have hc2 : ((s[0]'hz).toNat : Int) = 45 := by rw [h0]; omega
              rw [hv] at CD
              have HV := Lib.hid (show -(m : Int) = sv s.data.toList from by rw [hl]; exact hv.symm)
              clear hl es he hm hv hc h0 hS hN
              go_wp2_with (go_at_call 20; with_reducible refine (CD.out _).mono ?_; rintro e w1 ⟨rfl, hb1⟩)
              exact bodyPost_ret (v := .tuple #[.int .i64 (-(m : Int)), .bool true]) (by simp only [results, Tryz.results23]; go_simp) rfl ⟨⟨_, by rw [HN.out], fun _ => HV.out⟩, (by repeat' (first | exact Below.refl _ _ | assumption | apply bDrewN | apply bDrew | apply bAlloc | (refine bSet ?_ ?_ _) | (refine bStep ?_ (by assumption)) | omega | (simp <;> omega)))⟩
            · have hc2 : ¬ ((s[0]'hz).toNat : Int) = 45 := by rw [h0]; omega
              have hc3 : (((s[0]'hz).toNat : Int) == 45) = false := beq_false_of_ne hc2
              rw [hv] at CD
              have HV := Lib.hid (show (m : Int) = sv s.data.toList from by rw [hl]; exact hv.symm)
              clear hl es he hm hv hc h0 hS hN
              go_wp2_with (go_at_call 20; with_reducible refine (CD.out _).mono ?_; rintro e w1 ⟨rfl, hb1⟩)
              exact bodyPost_ret (v := .tuple #[.int .i64 (m : Int), .bool true]) (by simp only [results, Tryz.results23]; go_simp) rfl ⟨⟨_, by rw [HN.out], fun _ => HV.out⟩, (by repeat' (first | exact Below.refl _ _ | assumption | apply bDrewN | apply bDrew | apply bAlloc | (refine bSet ?_ ?_ _) | (refine bStep ?_ (by assumption)) | omega | (simp <;> omega)))⟩
          · have HN := Lib.hid (show isN s.data.toList = false from by rw [hl, hN, decide_eq_false he])
            have hne : ¬ (ByteArray.mk (Lib.itoa (sv (c :: r))).toArray).toList = s.toList := ba_nl fun e => he (by have q := congrArg (fun b : ByteArray => b.data.toList) e; simpa [hl] using q)
            generalize (ByteArray.mk (Lib.itoa (sv (c :: r))).toArray) = t at *
            rcases hsv with ⟨hc, hv⟩ | ⟨hc, hv⟩
            · have hc2 : ((s[0]'hz).toNat : Int) = 45 := by rw [h0]; omega
              rw [hv] at CD
              clear hl he hm hv hc h0 hS hN
              go_wp2_with (go_at_call 20; with_reducible refine (CD.out _).mono ?_; rintro e w1 ⟨rfl, hb1⟩)
              exact bodyPost_ret (v := .tuple #[.int .i64 (-(m : Int)), .bool false]) (by simp only [results, Tryz.results23]; go_simp) rfl ⟨⟨_, by rw [HN.out], fun h => by rw [HN.out] at h; cases h⟩, (by repeat' (first | exact Below.refl _ _ | assumption | apply bDrewN | apply bDrew | apply bAlloc | (refine bSet ?_ ?_ _) | (refine bStep ?_ (by assumption)) | omega | (simp <;> omega)))⟩
            · have hc2 : ¬ ((s[0]'hz).toNat : Int) = 45 := by rw [h0]; omega
              have hc3 : (((s[0]'hz).toNat : Int) == 45) = false := beq_false_of_ne hc2
              rw [hv] at CD
              clear hl he hm hv hc h0 hS hN
              go_wp2_with (go_at_call 20; with_reducible refine (CD.out _).mono ?_; rintro e w1 ⟨rfl, hb1⟩)
              exact bodyPost_ret (v := .tuple #[.int .i64 (m : Int), .bool false]) (by simp only [results, Tryz.results23]; go_simp) rfl ⟨⟨_, by rw [HN.out], fun h => by rw [HN.out] at h; cases h⟩, (by repeat' (first | exact Below.refl _ _ | assumption | apply bDrewN | apply bDrew | apply bAlloc | (refine bSet ?_ ?_ _) | (refine bStep ?_ (by assumption)) | omega | (simp <;> omega)))⟩
  · have h1 : 14 < (s.size : Int) := by omega
    have hn : isN s.data.toList = false := by unfold isN; rw [hsz, decide_eq_false h14]; rfl
    rw [hn]
    clear h14 hn hsz
    go_enter Tryz.func23, Tryz.ntmps23
    go_wp2_with fail
    exact bodyPost_ret (v := .tuple #[.int .i64 0, .bool false]) (by simp only [results, Tryz.results23]; go_simp) rfl ⟨⟨0, rfl, fun h => by cases h⟩, (by repeat' (first | exact Below.refl _ _ | assumption | apply bDrewN | apply bDrew | apply bAlloc | (refine bSet ?_ ?_ _) | (refine bStep ?_ (by assumption)) | omega | (simp <;> omega)))⟩
end Go.Proofs.YtpdhkgfdmpofiaaGreatDoor
