/-
  strconv.FormatInt, strconv.ParseInt, strings.Cut at two dots; write and read of package quantity.
-/
import Derived.Test.YtolnbblikfpnbaaDoorB2
import Derived.Test.YtolnbblikfpnbaaDoorShl
import Derived.Test.YtolnbblikfpnbaaDoorSgl
import Derived.Test.YtolnbblikfpnbaaDoorQa
import Derived.Laws.IdiomStrings
import Derived.Lib.AtoiErrMem
import Derived.Lib.AppendIntMem

set_option linter.unusedSimpArgs false
set_option linter.unusedVariables false
namespace Go.Proofs.YtolnbblikfpnbaaDoor
open Sx Go.RowKit
theorem bAl'' {W : World} {o : Obj} : Below W.heap.size W (W.alloc o) := (Below.refl _ _).alloc (Nat.le_refl _) _
theorem bdrewN (w : World) (n : Nat) : Below w.heap.size w (w.drewN n) := by
  repeat' (first | exact Below.refl _ _ | apply bDrewN)
theorem ba_inj {a b : ByteArray} (h : a.data.toList = b.data.toList) : a = b := by
  obtain ⟨⟨x⟩⟩ := a
  obtain ⟨⟨y⟩⟩ := b
  have h' : x = y := h
  rw [h']
theorem ba_of {s : ByteArray} {l : List UInt8} (h : l = s.data.toList) : s = ⟨l.toArray⟩ := ba_inj (by rw [h])
theorem ba_nl {a b : ByteArray} (h : ¬ a = b) : ¬ a.toList = b.toList := fun e => h (ba_inj (by rwa [Lib.toList_data, Lib.toList_data] at e))
theorem fmt_any (n : Int) (h0 : -9223372036854775808 ≤ n) (h1 : n ≤ 9223372036854775807) (w : World) (hG : GlobP w) :
    Calls Tryd.prog 38 #[.int .i64 n, .int .i64 10] w fun e w' => e = .returned (.string ⟨(Lib.itoa n).toArray⟩) ∧ Below w.heap.size w w' := by
  refine (Any.strconv_FormatInt_10 laysM173 n h0 h1 w hG.tab).mono fun e w' => ?_
  rintro ⟨rfl, k, os, rfl⟩
  exact ⟨rfl, Lib.below_grow _ _ (Nat.le_refl _) _ _⟩
theorem parse_any (s : ByteArray) (w : World) (hs : s.size ≤ 1000000) (hG : GlobP w) :
    Calls Tryd.prog 41 #[.string s, .int .i64 10, .int .i64 64] w fun e w' => (∃ v x, e = .returned (.tuple #[.int .i64 v, x]) ∧ ((Lib.parseIntB 64 s.data.toList = .ok v ∧ x = .nilIface) ∨ ((∀ u, Lib.parseIntB 64 s.data.toList ≠ .ok u) ∧ -9223372036854775808 ≤ v ∧ v ≤ 9223372036854775807 ∧ ∃ t p, x = .iface t p))) ∧ Below w.heap.size w w' := by
  obtain ⟨-, ⟨t1, v1, h1⟩, ⟨t2, v2, h2⟩, -⟩ := hG
  have k1 := World.var?_cell rngG_is h1 0
  have k2 := World.var?_cell synG_is h2 0
  rcases hn : Lib.parseIntB 64 s.data.toList with v | _ | _
  · refine (Any.strconv_ParseInt_10_at64_ok laysC174 s (by omega) v hn w).mono fun e w' h => ?_
    obtain ⟨rfl, hw⟩ := h
    refine ⟨⟨v, _, rfl, Or.inl ⟨rfl, rfl⟩⟩, ?_⟩
    rcases hw with rfl | ⟨t, rfl⟩
    · exact Below.refl _ _
    · exact Lib.bytesWorld_below _ _ _
  · refine (Any.strconv_ParseInt_10_at64_syntax laysC174 s (by omega) hn _ w (by rw [show laysC174_ren.g 15 = synG by kernel_rfl]; simpa using k2) (Or.inr ⟨_, _, rfl⟩)).mono fun e w' h => ?_
    obtain ⟨N, rfl, -, -, hb⟩ := h
    refine ⟨⟨0, _, rfl, Or.inr ⟨?_, ?_, ?_, _, _, rfl⟩⟩, hb⟩
    · intro u h; cases h
    · decide
    · decide
  · refine (Any.strconv_ParseInt_10_at64_range laysC174 s (by omega) hn _ w (by rw [show laysC174_ren.g 16 = rngG by kernel_rfl]; simpa using k1) (Or.inr ⟨_, _, rfl⟩)).mono fun e w' h => ?_
    obtain ⟨N, rfl, -, -, hb⟩ := h
    refine ⟨⟨Lib.intSat 64 s.data.toList, _, rfl, Or.inr ⟨?_, ?_, ?_, _, _, rfl⟩⟩, hb⟩
    · intro u h; cases h
    · unfold Lib.intSat; split <;> decide
    · unfold Lib.intSat; split <;> decide
set_option maxRecDepth 20000 in
theorem write_any (n : Int) (h0 : -9223372036854775808 ≤ n) (h1 : n ≤ 9223372036854775807) (w : World) (hG : Glob0 w) :
    Calls Tryd.prog 19 #[.int .i64 n] w fun e w' => e = .returned (.string ⟨(Lib.itoa n).toArray⟩) ∧ Below w.heap.size w w' := by
  have C := Lib.hid (fun W hG => fmt_any n h0 h1 W hG)
  have HG := Lib.hid hG
  clear hG h0 h1
  generalize (ByteArray.mk (Lib.itoa n).toArray) = t at *
  go_enter Tryd.func19, Tryd.ntmps19
  go_wp2_with (go_at_call 38; refine (C.out _ HG.out.1).mono ?_; rintro e w1 ⟨rfl, hb1⟩)
  go_ret
  exact ⟨rfl, (by repeat' (first | exact Below.refl _ _ | assumption | apply bDrewN | apply bDrew | apply bAlloc | (refine bSet ?_ ?_ _) | (refine bStep ?_ (by assumption)) | omega | (simp <;> omega)))⟩
/-- What read hands back. -/
def RdIs (s : ByteArray) (v : Int) (b : Bool) : Prop := (rd s.data.toList = some v ∧ b = true) ∨ (rd s.data.toList = none ∧ b = false)
set_option maxRecDepth 20000 in
theorem read_any (s : ByteArray) (w : World) (hs : s.size ≤ 1000000) (hG : Glob0 w) :
    Calls Tryd.prog 23 #[.string s] w fun e w' => (∃ v b, e = .returned (.tuple #[.int .i64 v, .bool b]) ∧ RdIs s v b) ∧ Below w.heap.size w w' := by
  have CP := Lib.hid (fun W hG => parse_any s W hs hG)
  have HG := Lib.hid hG
  clear hG hs
  by_cases hx : ∃ v, Lib.parseIntB 64 s.data.toList = .ok v
  · obtain ⟨v, hv⟩ := hx
    have hbd := parse_bd hv
    have CP2 : Hid (∀ W, GlobP W → Calls Tryd.prog 41 #[.string s, .int .i64 10, .int .i64 64] W fun e w' => e = .returned (.tuple #[.int .i64 v, .nilIface]) ∧ Below W.heap.size W w') := fun W hG => (CP.out W hG).mono fun e w' h => by
      obtain ⟨⟨u, x, rfl, hu⟩, hb⟩ := h
      rcases hu with ⟨h1, rfl⟩ | ⟨h1, -⟩
      · rw [hv] at h1
        injection h1 with h1
        subst h1
        exact ⟨rfl, hb⟩
      · exact absurd hv (h1 v)
    have CW := Lib.hid (fun W hG => write_any v hbd.1 hbd.2 W hG)
    clear CP hbd
    by_cases he : Lib.itoa v = s.data.toList
    · have hr : rd s.data.toList = some v := by unfold rd; rw [hv]; dsimp only; rw [if_pos he]
      have HR := Lib.hid (show RdIs s v true from .inl ⟨hr, rfl⟩)
      rw [← ba_of he] at CW
      clear hr hv he
      go_enter Tryd.func23, Tryd.ntmps23
      go_wp2_with (first
        | (go_at_call 41; refine (CP2.out _ HG.out.1).mono ?_; rintro e w1 ⟨rfl, hb1⟩)
        | (go_at_call 19; refine (CW.out _ (gstep HG.out (by repeat' (first | exact Below.refl _ _ | assumption | apply bDrewN | apply bDrew | apply bAlloc | (refine bSet ?_ ?_ _) | (refine bStep ?_ (by assumption)) | omega | (simp <;> omega))))).mono ?_; rintro e w2 ⟨rfl, hb2⟩))
      exact bodyPost_ret (v := .tuple #[.int .i64 v, .bool true]) (by simp only [results, Tryd.results23]; go_simp) rfl ⟨⟨v, true, rfl, HR.out⟩, (by repeat' (first | exact Below.refl _ _ | assumption | apply bDrewN | apply bDrew | apply bAlloc | (refine bSet ?_ ?_ _) | (refine bStep ?_ (by assumption)) | omega | (simp <;> omega)))⟩
    · have hr : rd s.data.toList = none := by unfold rd; rw [hv]; dsimp only; rw [if_neg he]
      have HR := Lib.hid (show RdIs s v false from .inr ⟨hr, rfl⟩)
      have hne : ¬ (ByteArray.mk (Lib.itoa v).toArray).toList = s.toList := ba_nl fun e => he (by rw [← e])
      clear hr hv he
      generalize (ByteArray.mk (Lib.itoa v).toArray) = t at *
      go_enter Tryd.func23, Tryd.ntmps23
      go_wp2_with (first
        | (go_at_call 41; refine (CP2.out _ HG.out.1).mono ?_; rintro e w1 ⟨rfl, hb1⟩)
        | (go_at_call 19; refine (CW.out _ (gstep HG.out (by repeat' (first | exact Below.refl _ _ | assumption | apply bDrewN | apply bDrew | apply bAlloc | (refine bSet ?_ ?_ _) | (refine bStep ?_ (by assumption)) | omega | (simp <;> omega))))).mono ?_; rintro e w2 ⟨rfl, hb2⟩))
      exact bodyPost_ret (v := .tuple #[.int .i64 v, .bool false]) (by simp only [results, Tryd.results23]; go_simp) rfl ⟨⟨v, false, rfl, HR.out⟩, (by repeat' (first | exact Below.refl _ _ | assumption | apply bDrewN | apply bDrew | apply bAlloc | (refine bSet ?_ ?_ _) | (refine bStep ?_ (by assumption)) | omega | (simp <;> omega)))⟩
  · have hr : rd s.data.toList = none := by
      unfold rd
      split
      · rename_i u hu; exact absurd ⟨u, hu⟩ hx
      · rfl
    have CP2 : Hid (∀ W, GlobP W → Calls Tryd.prog 41 #[.string s, .int .i64 10, .int .i64 64] W fun e w' => (∃ v t p, e = .returned (.tuple #[.int .i64 v, .iface t p])) ∧ Below W.heap.size W w') := fun W hG => (CP.out W hG).mono fun e w' h => by
      obtain ⟨⟨u, x, rfl, hu⟩, hb⟩ := h
      rcases hu with ⟨h1, rfl⟩ | ⟨h1, -, -, t, p, rfl⟩
      · exact absurd ⟨u, h1⟩ hx
      · exact ⟨⟨u, t, p, rfl⟩, hb⟩
    have HR := Lib.hid (show ∀ v, RdIs s v false from fun v => .inr ⟨hr, rfl⟩)
    clear CP hx hr
    go_enter Tryd.func23, Tryd.ntmps23
    go_wp2_with (go_at_call 41; refine (CP2.out _ HG.out.1).mono ?_; rintro e w1 ⟨⟨v, t, p, rfl⟩, hb1⟩)
    exact bodyPost_ret (v := .tuple #[.int .i64 v, .bool false]) (by simp only [results, Tryd.results23]; go_simp) rfl ⟨⟨v, false, rfl, HR.out v⟩, (by repeat' (first | exact Below.refl _ _ | assumption | apply bDrewN | apply bDrew | apply bAlloc | (refine bSet ?_ ?_ _) | (refine bStep ?_ (by assumption)) | omega | (simp <;> omega)))⟩
/-- strings.Cut at two dots. -/
theorem cut2_any (s : ByteArray) (w : World) (hs : s.size ≤ 1000000) (hG : Glob0 w) :
    Calls Tryd.prog 22 #[.string s, .string ⟨#[46, 46]⟩] w fun e w' => e = .returned (.tuple #[.string ⟨(Lib.cut s.data.toList [46, 46]).1.toArray⟩, .string ⟨(Lib.cut s.data.toList [46, 46]).2.1.toArray⟩, .bool (Lib.cut s.data.toList [46, 46]).2.2]) ∧ Below w.heap.size w w' := by
  obtain ⟨m, hm⟩ := hG.1.max
  refine (Any.strings_Cut lays145 s ⟨#[46, 46]⟩ m w (by omega) (by rw [show lays145_ren.g 1 = maxG by kernel_rfl]; exact hm)).mono fun e w' h => ?_
  obtain ⟨rfl, n, rfl⟩ := h
  exact ⟨rfl, bdrewN w n⟩
end Go.Proofs.YtolnbblikfpnbaaDoor
