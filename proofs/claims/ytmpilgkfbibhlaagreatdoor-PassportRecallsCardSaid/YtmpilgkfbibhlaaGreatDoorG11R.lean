/-
 Names; numbers in decimal; texts that are joined.
-/
import Derived.Test.YtmpilgkfbibhlaaGreatDoorG10R
import Derived.Test.YtmpilgkfbibhlaaGreatDoorG0R
import Derived.Laws.IdiomStrings
import Derived.Shelf.Strings.OnBuilder
import Derived.Test.YtmpilgkfbibhlaaGreatDoorG8R
import Derived.Shelf.Strings.Cut
import Derived.Lib.AtoiErrMem
import Derived.Lib.AppendIntMem
set_option linter.unusedSimpArgs false
set_option linter.unusedVariables false
namespace Go.Proofs.YtmpilgkfbibhlaaGreatDoor
open Go.RowKit
def okc (c : UInt8) : Bool := decide (97 ≤ c.toNat ∧ c.toNat ≤ 122 ∨ 48 ≤ c.toNat ∧ c.toNat ≤ 57)
def nameB (s : ByteArray) : Bool := decide (1 ≤ s.size ∧ s.size ≤ 20) && s.data.toList.all okc
set_option maxHeartbeats 1000000 in
set_option maxRecDepth 20000 in
theorem isName_any (s : ByteArray) (w : World) (hs : s.size ≤ 9223372036854775807) : Calls Tryz.prog 39 #[.string s] w fun e w' => e = .returned (.bool (nameB s)) ∧ Below w.heap.size w w' := by
 by_cases h1 : 1 ≤ s.size ∧ s.size ≤ 20
 ·obtain ⟨h1, h2⟩ := h1
  have h1' : 1 ≤ (s.size : Int) := by omega
  have h2' : (s.size : Int) ≤ 20 := by omega
  have hnb : nameB s = s.data.toList.all okc := by unfold nameB; rw [decide_eq_true ⟨h1, h2⟩, Bool.true_and]
  obtain ⟨R, hR⟩ : ∃ R, s.data.toList.all okc = R := ⟨_, rfl⟩
  rw [hnb, hR]
  have HR := Lib.hid hR
  clear hR
  have hconv := run_bytes_of_string (P := Tryz.prog) w 9 88 5 s Tryz.underlying9 Tryz.underlying88 Tryz.underlying5
  generalize hcap : grownCap w s.size 0 5 = cap at *
  have hcell : Hid (∀ j (hj : j < s.data.size), (w.alloc (.cells (bytesRow s cap) 5 ((bytesRow s cap).size, (bytesRow s cap).size + 1))).cell? ⟨w.heap.size, j, none⟩ = some (.int .u8 (s.data[j].toNat : Int))) := fun j hj => by
   rw [World.cell?_alloc_mark, bytesRow_at _ _ _ hj]
  generalize bytesRow s cap = C at *
  have hsz : s.size = s.data.size := rfl
  have hlen : s.data.toList.length = s.size := by rw [hsz]; exact Array.length_toList
  have HSZ := Lib.hid hsz
  have HLEN := Lib.hid hlen
  clear hnb hcap hsz hlen
  go_enter Tryz.func39, Tryz.ntmps39
  go_wp2
  go_loopw [4, 16] (fun _ i wr => ∃ k : Nat, k ≤ s.size ∧ i = .int .i64 k ∧ Hid ((s.data.toList.take k).all okc = true) ∧ wr = (w.alloc (.cells C 5 (C.size, C.size + 1))).drew) (fun _ i _ => s.size - (intOf i).toNat)
  case atStart => exact ⟨0, Nat.zero_le _, rfl, by simp [Hid], rfl⟩
  case round =>
   obtain ⟨k, hk, rfl, HQ, rfl⟩ := hrel
   by_cases hlt : k < s.size
   ·have hc := hcell.out k hlt
    have hlt2 : k < s.data.toList.length := by rw [HLEN.out]; exact hlt
    have hget : s.data.toList[k] = s.data[k] := Array.getElem_toList _
    have HS := Lib.hid (show okc s.data[k] = true → (s.data.toList.take (k + 1)).all okc = true from fun h => by
     rw [List.take_succ_eq_append_getElem hlt2, List.all_append, HQ.out, hget]
     simp [h])
    have HN := Lib.hid (show okc s.data[k] = false → s.data.toList.all okc = false from fun h => by
     rw [List.all_eq_false]
     exact ⟨s.data[k], by rw [← hget]; exact List.getElem_mem _, by simp [h]⟩)
    have hb : s.data[k].toNat < 256 := s.data[k].toNat_lt
    have hoc : okc s.data[k] = decide (97 ≤ s.data[k].toNat ∧ s.data[k].toNat ≤ 122 ∨ 48 ≤ s.data[k].toNat ∧ s.data[k].toNat ≤ 57) := rfl
    rw [hoc] at HS HN
    generalize s.data[k].toNat = c at *
    clear hoc hget HQ
    by_cases hok : 97 ≤ c ∧ c ≤ 122 ∨ 48 ≤ c ∧ c ≤ 57
    ·have hnext := HS.out (decide_eq_true hok)
     have hok' : (97 ≤ (c : Int) ∧ (c : Int) ≤ 122) ∨ ((c : Int) < 97 ∧ 48 ≤ (c : Int) ∧ (c : Int) ≤ 57) := by omega
     have HX := Lib.hid hnext
     clear hok HS HN hnext
     rcases hok' with ⟨q1, q2⟩ | ⟨q0, q1, q2⟩
     all_goals
      go_wp2_with fail
      go_roundw
      case rel => exact ⟨k + 1, by omega, by go_num, HX, by first | trivial | rfl⟩
      case measure => simp [intOf]; omega
    ·have hn := HN.out (decide_eq_false hok)
     have HN2 := Lib.hid (HR.out.symm.trans hn)
     have hok' : (97 ≤ (c : Int) ∧ 122 < (c : Int) ∧ 48 ≤ (c : Int) ∧ 57 < (c : Int)) ∨ ((c : Int) < 97 ∧ 48 ≤ (c : Int) ∧ 57 < (c : Int)) ∨ ((c : Int) < 97 ∧ (c : Int) < 48) := by omega
     clear hok HS HN hn
     rcases hok' with ⟨q1, q2, q3, q4⟩ | ⟨q1, q2, q3⟩ | ⟨q1, q2⟩
     all_goals
      go_wp2_with fail
      all_goals first
       | (go_ret; exact ⟨by rw [HN2.out]; rfl, (by repeat' (first | exact Below.refl _ _ | assumption | apply bDrewN | apply bDrew | apply bAlloc | (refine bSet ?_ ?_ _) | (refine bStep ?_ (by assumption)) | omega | (simp <;> omega)))⟩)
       | (exfalso; omega)
       | (exfalso; simp_all; omega)
   ·obtain rfl : k = s.size := by omega
    have hall : s.data.toList.all okc = true := by
     have := HQ.out
     rwa [← HLEN.out, List.take_length] at this
    have HAL := Lib.hid (HR.out.symm.trans hall)
    clear hcell hall
    go_wp2_with fail
    go_ret
    exact ⟨by rw [HAL.out]; rfl, (by repeat' (first | exact Below.refl _ _ | assumption | apply bDrewN | apply bDrew | apply bAlloc | (refine bSet ?_ ?_ _) | (refine bStep ?_ (by assumption)) | omega | (simp <;> omega)))⟩
 ·have hnb : nameB s = false := by unfold nameB; rw [decide_eq_false h1, Bool.false_and]
  rw [hnb]
  have h2 : (s.size : Int) < 1 ∨ (1 ≤ (s.size : Int) ∧ 20 < (s.size : Int)) := by omega
  rcases h2 with h2 | ⟨h2, h3⟩
  all_goals
   go_enter Tryz.func39, Tryz.ntmps39
   go_wp2
   go_ret
   exact ⟨rfl, (by repeat' (first | exact Below.refl _ _ | assumption | apply bDrewN | apply bDrew | apply bAlloc | (refine bSet ?_ ?_ _) | (refine bStep ?_ (by assumption)) | omega | (simp <;> omega)))⟩
end Go.Proofs.YtmpilgkfbibhlaaGreatDoor
namespace Go.Proofs.YtmpilgkfbibhlaaGreatDoor
open Sx Go.RowKit
def colon (s : ByteArray) : Int := Lib.indexByte s.data.toList 58
def cutS (s : ByteArray) : ByteArray × ByteArray × Bool := if 0 ≤ colon s then (s.extract 0 (colon s).toNat, s.extract ((colon s).toNat + 1) s.size, true) else (s, ⟨#[]⟩, false)
theorem index_one (s : ByteArray) (w : World) : Calls Tryz.prog 158 #[.string s, .string ⟨#[58]⟩] w fun e w' => e = .returned (.int .i64 (colon s)) ∧ w' = w :=
 Any.stringslite_Index_one lays219 s 58 w
set_option maxHeartbeats 1000000 in
set_option maxRecDepth 20000 in
theorem cut_lite (s : ByteArray) (w : World) (hs : s.size ≤ 1000000) : Calls Tryz.prog 145 #[.string s, .string ⟨#[58]⟩] w fun e w' => e = .returned (.tuple #[.string (cutS s).1, .string (cutS s).2.1, .bool (cutS s).2.2]) ∧ ∃ n, w' = w.drewN n := by
 have CI := Lib.hid (fun w => index_one s w)
 unfold cutS
 by_cases h : 0 ≤ colon s
 ·rw [if_pos h]
  obtain ⟨i, hi⟩ := Int.eq_ofNat_of_zero_le h
  have hroom : i < s.size := by
   have h1 := (Lib.indexByte_some (l := s.data.toList) (c := 58) (o := i) hi).1
   rw [Lib.size_eq]
   exact (List.getElem?_eq_some_iff.1 h1).1
  rw [hi] at CI ⊢
  simp only [Int.toNat_natCast]
  have c1 : (0 : Int) ≤ (i : Int) := by omega
  have c2 : (i : Int) ≤ (s.size : Int) := by omega
  have c3 : (0 : Int) ≤ (i : Int) + 1 := by omega
  have c4 : (i : Int) + 1 ≤ (s.size : Int) := by omega
  have c5 : IntKind.i64.wrap ((i : Int) + 1) = (i : Int) + 1 := Go.IntWalk.i64_in _ ⟨by omega, by omega⟩
  have c6 : ((i : Int) + 1).toNat = i + 1 := by omega
  have mixed : Tryz.prog.follows .mixedOrders = true := by kernel_rfl
  clear h hi
  go_enter Tryz.func145, Tryz.ntmps145
  go_wp2_with (go_at_call 158; refine (CI.out _).mono ?_; rintro e w' ⟨rfl, rfl⟩)
  go_region_o
  go_wp2
  exact bodyPost_ret (v := .tuple #[.string (s.extract 0 i), .string (s.extract (i + 1) s.size), .bool true]) (by simp only [results, Tryz.results145]; go_simp) rfl ⟨rfl, 1, rfl⟩
 ·rw [if_neg h]
  have h1 : colon s = -1 := by have := Lib.indexByte_ge s.data.toList 58; unfold colon at *; omega
  rw [h1] at CI
  clear h h1
  go_enter Tryz.func145, Tryz.ntmps145
  go_wp2_with (go_at_call 158; refine (CI.out _).mono ?_; rintro e w' ⟨rfl, rfl⟩)
  exact bodyPost_ret (v := .tuple #[.string s, .string ⟨#[]⟩, .bool false]) (by simp only [results, Tryz.results145]; go_simp) rfl ⟨rfl, 0, rfl⟩
set_option maxRecDepth 20000 in
theorem cut_any (s : ByteArray) (w : World) (hs : s.size ≤ 1000000) : Calls Tryz.prog 119 #[.string s, .string ⟨#[58]⟩] w fun e w' => e = .returned (.tuple #[.string (cutS s).1, .string (cutS s).2.1, .bool (cutS s).2.2]) ∧ ∃ n, w' = w.drewN n := by
 have CI := Lib.hid (fun w => cut_lite s w hs)
 generalize (cutS s).1 = x1 at *
 generalize (cutS s).2.1 = x2 at *
 generalize (cutS s).2.2 = x3 at *
 go_enter Tryz.func119, Tryz.ntmps119
 go_wp2_with (go_at_call 145; refine (CI.out _).mono ?_; rintro e w' ⟨rfl, n, rfl⟩)
 exact bodyPost_ret (v := .tuple #[.string x1, .string x2, .bool x3]) (by simp only [results, Tryz.results119]; go_simp) rfl ⟨rfl, n, rfl⟩
def numS (s : ByteArray) : Option Int := match Lib.atoiAll s.data.toList with | .ok v => some v | _ => none
theorem atoi_any (s : ByteArray) (w : World) (hs : s.size ≤ 1000000) (hG : GlobP w) :
  Calls Tryz.prog 120 #[.string s] w fun e w' => (∃ v x, e = .returned (.tuple #[.int .i64 v, x]) ∧ ((numS s = some v ∧ x = .nilIface) ∨ (numS s = none ∧ ∃ t p, x = .iface t p))) ∧ Below w.heap.size w w' := by
 obtain ⟨-, ⟨t1, v1, h1⟩, ⟨t2, v2, h2⟩, -⟩ := hG
 have k1 := World.var?_cell rngG_is h1 0
 have k2 := World.var?_cell synG_is h2 0
 unfold numS
 rcases hn : Lib.atoiAll s.data.toList with v | _ | _
 ·refine (Any.strconv_Atoi_ok laysC172 s (by omega) v hn w).mono fun e w' h => ?_
  obtain ⟨rfl, hw⟩ := h
  refine ⟨⟨v, _, rfl, Or.inl ⟨rfl, rfl⟩⟩, ?_⟩
  rcases hw with rfl | ⟨t, rfl⟩
  ·exact Below.refl _ _
  ·exact Lib.bytesWorld_below _ _ _
 ·refine (Any.strconv_Atoi_syntax laysC172 s (by omega) hn _ w (by rw [show laysC172_ren.g 15 = synG by kernel_rfl]; simpa using k2) (Or.inr ⟨_, _, rfl⟩)).mono fun e w' h => ?_
  obtain ⟨N, rfl, -, -, hb⟩ := h
  exact ⟨⟨_, _, rfl, Or.inr ⟨rfl, _, _, rfl⟩⟩, hb⟩
 ·refine (Any.strconv_Atoi_range laysC172 s (by omega) hn _ w (by rw [show laysC172_ren.g 16 = rngG by kernel_rfl]; simpa using k1) (Or.inr ⟨_, _, rfl⟩)).mono fun e w' h => ?_
  obtain ⟨N, rfl, -, -, hb⟩ := h
  exact ⟨⟨_, _, rfl, Or.inr ⟨rfl, _, _, rfl⟩⟩, hb⟩
end Go.Proofs.YtmpilgkfbibhlaaGreatDoor
namespace Go.Proofs.YtmpilgkfbibhlaaGreatDoor
open Sx Go.RowKit
theorem gstep {w w' : World} (h : Glob0 w) (hb : Below w.heap.size w w') : Glob0 w' :=
 ⟨h.1.kept fun g hg => hb.block g (h.2 g hg).2, fun g hg => ⟨by have := (h.2 g hg).2; have := hb.size; omega, Nat.lt_of_lt_of_le (h.2 g hg).2 hb.size⟩⟩
def modB (s : ByteArray) : Bool := (cutS s).2.2 && (match numS (cutS s).2.1 with
 | some v => decide (0 ≤ v ∧ v < 32) && (Lib.itoa v == (cutS s).2.1.toList) && nameB (cutS s).1
 | none => false)
theorem itoa_any (n : Int) (h0 : -9223372036854775808 ≤ n) (h1 : n ≤ 9223372036854775807) (w : World) (hG : GlobP w) :
  Calls Tryz.prog 106 #[.int .i64 n] w fun e w' => e = .returned (.string ⟨(Lib.itoa n).toArray⟩) ∧ Below w.heap.size w w' := by
 refine (Any.strconv_Itoa laysM171 n h0 h1 w hG.tab).mono fun e w' => ?_
 rintro ⟨rfl, k, os, rfl⟩
 exact ⟨rfl, Lib.below_grow _ _ (Nat.le_refl _) _ _⟩
theorem cutS_size (s : ByteArray) : (cutS s).1.size ≤ s.size ∧ (cutS s).2.1.size ≤ s.size := by
 unfold cutS
 split
 ·simp only [ByteArray.size_extract]
  omega
 ·exact ⟨Nat.le_refl _, Nat.zero_le _⟩
theorem bdrewN (w : World) (n : Nat) : Below w.heap.size w (w.drewN n) := by
 repeat' (first | exact Below.refl _ _ | apply bDrewN)
set_option maxHeartbeats 2000000 in
set_option maxRecDepth 20000 in
theorem isModule_any (s : ByteArray) (w : World) (hs : s.size ≤ 1000000) (hG : Glob0 w) : Calls Tryz.prog 67 #[.string s] w fun e w' => e = .returned (.tuple #[.string (cutS s).1, .bool (modB s)]) ∧ Below w.heap.size w w' := by
 have CC : Hid (∀ W, Calls Tryz.prog 119 #[.string s, .string ⟨#[58]⟩] W fun e w' => e = .returned (.tuple #[.string (cutS s).1, .string (cutS s).2.1, .bool (cutS s).2.2]) ∧ Below W.heap.size W w') := fun W => (cut_any s W hs).mono fun e w' h => ⟨h.1, by obtain ⟨n, rfl⟩ := h.2; exact bdrewN W n⟩
 have hz := cutS_size s
 have CA := Lib.hid (fun W hG => atoi_any (cutS s).2.1 W (by omega) hG)
 have CN := Lib.hid (fun W => isName_any (cutS s).1 W (by omega))
 have HG := Lib.hid hG
 unfold modB
 clear hG hz hs
 generalize (cutS s).1 = x1 at *
 generalize (cutS s).2.1 = x2 at *
 generalize hx3 : (cutS s).2.2 = x3 at *
 clear hx3
 cases x3 with
 | false =>
  simp only [Bool.false_and]
  go_enter Tryz.func67, Tryz.ntmps67
  go_wp2_with (first
   | (go_at_call 119; refine (CC.out _).mono ?_; rintro e w1 ⟨rfl, hb1⟩)
   | (go_at_call 120; refine (CA.out _ (gstep HG.out hb1).1).mono ?_; rintro e w2 ⟨⟨v, x, rfl, hx⟩, hb2⟩; have K2 := bStep hb1 hb2))
  exact bodyPost_ret (v := .tuple #[.string x1, .bool false]) (by simp only [results, Tryz.results67]; go_simp) rfl ⟨rfl, K2⟩
 | true =>
  cases hn : numS x2 with
  | none =>
   have CA2 : Hid (∀ W, GlobP W → Calls Tryz.prog 120 #[.string x2] W fun e w' => (∃ v t p, e = .returned (.tuple #[.int .i64 v, .iface t p])) ∧ Below W.heap.size W w') := fun W h => (CA.out W h).mono fun e w' h => by
    obtain ⟨⟨v, x, rfl, hx⟩, hb⟩ := h
    rcases hx with ⟨h1, h2⟩ | ⟨_, t, p, rfl⟩
    ·rw [hn] at h1; cases h1
    ·exact ⟨⟨v, t, p, rfl⟩, hb⟩
   clear CA hn
   go_enter Tryz.func67, Tryz.ntmps67
   go_wp2_with (first
    | (go_at_call 119; refine (CC.out _).mono ?_; rintro e w1 ⟨rfl, hb1⟩)
    | (go_at_call 120; refine (CA2.out _ (gstep HG.out hb1).1).mono ?_; rintro e w2 ⟨⟨v, t, p, rfl⟩, hb2⟩; have K2 := bStep hb1 hb2))
   exact bodyPost_ret (v := .tuple #[.string x1, .bool false]) (by simp only [results, Tryz.results67]; go_simp) rfl ⟨rfl, K2⟩
  | some v =>
   have CA2 : Hid (∀ W, GlobP W → Calls Tryz.prog 120 #[.string x2] W fun e w' => e = .returned (.tuple #[.int .i64 v, .nilIface]) ∧ Below W.heap.size W w') := fun W h => (CA.out W h).mono fun e w' h => by
    obtain ⟨⟨v2, x, rfl, hx⟩, hb⟩ := h
    rcases hx with ⟨h1, rfl⟩ | ⟨h1, _⟩
    ·rw [hn] at h1; obtain rfl := Option.some.inj h1; exact ⟨rfl, hb⟩
    ·rw [hn] at h1; cases h1
   clear CA hn
   dsimp only
   by_cases hv : 0 ≤ v ∧ v < 32
   ·rw [decide_eq_true hv]
    have CI := Lib.hid (fun W hG => itoa_any v (by omega) (by omega) W hG)
    obtain ⟨hv1, hv2⟩ := hv
    generalize Lib.itoa v = it at *
    cases hi : (it == x2.toList) with
    | true =>
     simp only [Bool.true_and]
     go_enter Tryz.func67, Tryz.ntmps67
     go_wp2_with (first
      | (go_at_call 119; refine (CC.out _).mono ?_; rintro e w1 ⟨rfl, hb1⟩)
      | (go_at_call 120; refine (CA2.out _ (gstep HG.out hb1).1).mono ?_; rintro e w2 ⟨rfl, hb2⟩; have K2 := bStep hb1 hb2)
      | (go_at_call 106; refine (CI.out _ (gstep HG.out K2).1).mono ?_; rintro e w3 ⟨rfl, hb3⟩; have K3 := bStep K2 hb3)
      | (go_at_call 39; refine (CN.out _).mono ?_; rintro e w4 ⟨rfl, hb4⟩; have K4 := bStep K3 hb4))
     exact bodyPost_ret (v := .tuple #[.string x1, .bool (nameB x1)]) (by simp only [results, Tryz.results67]; go_simp) rfl ⟨rfl, K4⟩
    | false =>
     simp only [Bool.true_and, Bool.false_and]
     go_enter Tryz.func67, Tryz.ntmps67
     go_wp2_with (first
      | (go_at_call 119; refine (CC.out _).mono ?_; rintro e w1 ⟨rfl, hb1⟩)
      | (go_at_call 120; refine (CA2.out _ (gstep HG.out hb1).1).mono ?_; rintro e w2 ⟨rfl, hb2⟩; have K2 := bStep hb1 hb2)
      | (go_at_call 106; refine (CI.out _ (gstep HG.out K2).1).mono ?_; rintro e w3 ⟨rfl, hb3⟩; have K3 := bStep K2 hb3))
     exact bodyPost_ret (v := .tuple #[.string x1, .bool false]) (by simp only [results, Tryz.results67]; go_simp) rfl ⟨rfl, K3⟩
   ·rw [decide_eq_false hv]
    simp only [Bool.true_and, Bool.false_and]
    have hv2 : v < 0 ∨ (0 ≤ v ∧ 32 ≤ v) := by omega
    clear hv
    rcases hv2 with h | ⟨h, h2⟩
    all_goals
     go_enter Tryz.func67, Tryz.ntmps67
     go_wp2_with (first
      | (go_at_call 119; refine (CC.out _).mono ?_; rintro e w1 ⟨rfl, hb1⟩)
      | (go_at_call 120; refine (CA2.out _ (gstep HG.out hb1).1).mono ?_; rintro e w2 ⟨rfl, hb2⟩; have K2 := bStep hb1 hb2))
     exact bodyPost_ret (v := .tuple #[.string x1, .bool false]) (by simp only [results, Tryz.results67]; go_simp) rfl ⟨rfl, K2⟩
set_option maxRecDepth 20000 in
theorem module_any (s : ByteArray) (w : World) (hs : s.size ≤ 1000000) (hG : Glob0 w) : Calls Tryz.prog 126 #[.string s] w fun e w' => e = .returned (.bool (modB s)) ∧ Below w.heap.size w w' := by
 have C := Lib.hid (isModule_any s w hs hG)
 generalize modB s = R at *
 go_enter Tryz.func126, Tryz.ntmps126
 go_wp2_with (go_at_call 67; refine (C.out).mono ?_; rintro e w1 ⟨rfl, hb1⟩)
 go_ret
 exact ⟨rfl, hb1⟩
theorem empty_any (s : ByteArray) (w : World) : Calls Tryz.prog 91 #[.string s] w fun e w' => e = .returned (.bool (s.toList == [])) ∧ Below w.heap.size w w' := by
 go_enter Tryz.func91, Tryz.ntmps91
 go_wp2
 go_ret
 exact ⟨by first | rfl | (simp; done), Below.refl _ _⟩
end Go.Proofs.YtmpilgkfbibhlaaGreatDoor
