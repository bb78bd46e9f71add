/-
  Text and Parse of package quantity.
-/
import Derived.Test.YtolnbblikfpnbaaDoorG7CurveTexts
import Derived.Test.YtolnbblikfpnbaaDoorG2CurveTexts
import Derived.Test.YtolnbblikfpnbaaDoorProg
import Derived.Shelf.Strings.Builder1
import Derived.Shelf.Strings.Builder2
import Derived.Shelf.Strings.OnBuilder
import Derived.Shelf.Utf8.RuneCount
import Derived.Shelf.Strconv.Itoa0
import Derived.Shelf.Strconv.Itoa1
import Derived.Shelf.LaysM
import Derived.Shelf.Strconv.Itoa2
import Derived.Shelf.Strconv.Itoa3
import Derived.Shelf.Strconv.Itoa4
import Derived.Shelf.Strconv.ParseIntEmpty
import Derived.Shelf.Strconv.Clone
import Derived.Shelf.Strconv.SyntaxError
import Derived.Shelf.LaysC
import Derived.Shelf.Strconv.ToError
import Derived.Shelf.Strconv.Lower
import Derived.Shelf.Strconv.ParseUint10
import Derived.Shelf.Strconv.ParseUint10Empty
import Derived.Shelf.Strconv.ParseUint10Any
import Derived.Shelf.Strconv.ParseInt10
import Derived.Shelf.Strconv.RangeError
import Derived.Shelf.Strconv.ToErrorRange
import Derived.Shelf.Strconv.ParseUintEmpty
import Derived.Shelf.Strconv.ParseUint10b64
import Derived.Shelf.Strconv.ParseUint10b32
import Derived.Shelf.Strconv.ParseUint10b16
import Derived.Shelf.Strconv.ParseUint10b8
import Derived.Shelf.Strconv.ParseUint10At
import Derived.Shelf.Strconv.ParseInt10At64
import Derived.Shelf.Strconv.ParseInt10At32
import Derived.Shelf.Strconv.ParseInt10At16
import Derived.Shelf.Strconv.ParseInt10At8
import Derived.Shelf.Strconv.ParseInt10All
import Derived.Shelf.Strconv.ParseIntPublic10
import Derived.Shelf.Strings.Search1
import Derived.Shelf.Strings.Search2
import Derived.Shelf.Strings.Search3
import Derived.Shelf.Strings.Cut
import Derived.Shelf.Strings.Count
import Derived.Shelf.Strings.Shaped
import Derived.Shelf.Strings.Split
import Derived.Shelf.Strings.SplitShaped
import Derived.Shelf.Unicode.Decode
import Derived.Shelf.Strings.RuneCount
import Derived.Shelf.Strings.Explode
import Derived.Shelf.Unicode.DecodeSlow
import Derived.Shelf.Unicode.DecodeAny
import Derived.Ground.SlgfProg
import Derived.Shelf.SlicesE.IndexFunc
import Derived.Test.YtolnbblikfpnbaaDoorG1CurveTexts
import Derived.Lib.Join
set_option linter.unusedSimpArgs false
set_option linter.unusedVariables false
namespace Go.Proofs.YtolnbblikfpnbaaDoor
open Sx Go.RowKit
theorem okS_P {p : Int × Int} : okS p = true ↔ okP p := by
  rw [okS_iff, isQ_iff, isQ_iff]
  unfold okP
  omega
def textR (p : Int × Int) : ByteArray × Int := if okS p = true then (⟨(txtP p).toArray⟩, 0) else (⟨#[]⟩, 2)
noncomputable def parR (l : List UInt8) : (Int × Int) × Int := match parS l with
  | some p => (p, 0)
  | none => ((0, 0), 8)
theorem txt_app' (a b : List UInt8) : ((ByteArray.mk a.toArray) ++ (ByteArray.mk #[46, 46])) ++ (ByteArray.mk b.toArray) = ⟨(a ++ 46 :: 46 :: b).toArray⟩ := ba_inj (by simp)
set_option maxHeartbeats 1000000 in
set_option maxRecDepth 20000 in
theorem Text_any (p : Int × Int) (w : World) (hG : Glob0 w) : Calls Tryd.prog 6 #[.agg #[.int .i64 p.1, .int .i64 p.2]] w fun e w' => e = .returned (.tuple #[.string (textR p).1, .int .i64 (textR p).2]) ∧ Below w.heap.size w w' := by
  obtain ⟨x, y⟩ := p
  unfold textR
  have HG := Lib.hid hG
  clear hG
  cases hk : okS (x, y)
  · rw [if_neg (by decide)]
    dsimp only
    go_enter Tryd.func6, Tryd.ntmps6
    go_wp2_with (go_at_call 18; refine (valid_oneN _ _ _ _ _ _ _ (by simp)).mono ?_; rintro e w1 ⟨rfl, hb⟩; obtain ⟨hcw1, hfw1⟩ := bcell hb; have hzw1 := Below.size hb; (try simp at hzw1); have hzw10 : w.heap.size < w1.heap.size := (by omega); have hzw11 : w.heap.size + 1 < w1.heap.size := (by omega))
    exact bodyPost_ret (v := .tuple #[.string ⟨#[]⟩, .int .i64 2]) (by simp only [results, Tryd.results6]; go_simp) rfl ⟨rfl, (by repeat' (first | exact Below.refl _ _ | assumption | apply bDrewN | apply bDrew | apply bAlloc | (refine bSet ?_ ?_ _) | (refine bStep ?_ (by assumption)) | omega | (simp <;> omega)))⟩
  · rw [if_pos rfl]
    dsimp only
    obtain ⟨b1, b2, b3⟩ := okS_P.1 hk
    dsimp only at b1 b2 b3
    have C1 := Lib.hid (fun W hG => write_any x (by omega) (by omega) W hG)
    have C2 := Lib.hid (fun W hG => write_any y (by omega) (by omega) W hG)
    have l1 := okP_len b1 (by omega)
    have l2 := okP_len (by omega) b3
    unfold txtP
    dsimp only
    generalize Lib.itoa x = lx at *
    generalize Lib.itoa y = ly at *
    have q1 : ¬ 9223372036854775807 < lx.length + 2 := by omega
    have q2 : ¬ 9223372036854775807 < lx.length + 2 + ly.length := by omega
    clear b1 b2 b3 l1 l2
    go_enter Tryd.func6, Tryd.ntmps6
    go_wp2_with (go_at_call 18; refine (valid_oneN _ _ _ _ _ _ _ (by simp)).mono ?_; rintro e w1 ⟨rfl, hb⟩; obtain ⟨hcw1, hfw1⟩ := bcell hb; have hzw1 := Below.size hb; (try simp at hzw1); have hzw10 : w.heap.size < w1.heap.size := (by omega); have hzw11 : w.heap.size + 1 < w1.heap.size := (by omega))
    have c0 : w1.cell? ⟨w.heap.size, 0, none⟩ = some (.int .i64 x) := (hb.cell (p := ⟨w.heap.size, 0, none⟩) (by simp; omega)).trans (by go_simp)
    have c1 : w1.cell? ⟨w.heap.size, 1, none⟩ = some (.int .i64 y) := (hb.cell (p := ⟨w.heap.size, 1, none⟩) (by simp; omega)).trans (by go_simp)
    have f0 : ∀ s : WStep w1, s.1.cell? ⟨w.heap.size, 0, none⟩ = some (.int .i64 x) := fun s => cell_step c0 s.2
    have f1 : ∀ s : WStep w1, s.1.cell? ⟨w.heap.size, 1, none⟩ = some (.int .i64 y) := fun s => cell_step c1 s.2
    have HK := Lib.hid (bStep (bAlloc (bAlloc (Below.refl w.heap.size w) _) _) hb)
    have HG1 := Lib.hid (gstep HG.out HK.out)
    have CX := Lib.hid (fun s : WStep w1 => step_call s (C1.out s.1 (gstep HG1.out s.2)))
    have CY := Lib.hid (fun s : WStep w1 => step_call s (C2.out s.1 (gstep HG1.out s.2)))
    clear c0 c1 C1 C2 HG HG1 hcw1 hfw1 hb
    refine wp_region_step (by kernel_rfl) (by kernel_rfl) ?_
    repeat (quiet_step (first | (with_reducible exact CX.out _) | (with_reducible exact CY.out _)))
    refine wpQuiet_nil ?_
    intro _ hw'
    obtain ⟨⟨W2, hW2⟩, hw''⟩ := hw'
    dsimp only at hw''
    subst hw''
    go_wp2_with fail
    exact bodyPost_ret (v := .tuple #[.string ((⟨lx.toArray⟩ ++ ⟨#[46, 46]⟩) ++ ⟨ly.toArray⟩), .int .i64 0]) (by simp only [results, Tryd.results6]; go_simp) rfl ⟨by rw [txt_app'], bStep HK.out hW2⟩
end Go.Proofs.YtolnbblikfpnbaaDoor

/-
  Parse of package quantity.
-/
set_option linter.unusedSimpArgs false
set_option linter.unusedVariables false
namespace Go.Proofs.YtolnbblikfpnbaaDoor
open Sx Go.RowKit
theorem rb_open {b : Nat} {W : World} {T : TypeId} (h : W.heap[b]? = some (.cells #[.int .i64 0, .int .i64 0] T)) : W.cell? ⟨b, 0, none⟩ = some (.int .i64 0) ∧ W.cell? ⟨b, 1, none⟩ = some (.int .i64 0) ∧ W.frozen? ⟨b, 0, none⟩ = false ∧ W.frozen? ⟨b, 1, none⟩ = false ∧ b < W.heap.size :=
  ⟨blk_cell h rfl, blk_cell h rfl, blk_free h, blk_free h, blk_lt h⟩
set_option maxHeartbeats 2000000 in
set_option maxRecDepth 20000 in
theorem Parse_any (s : ByteArray) (w : World) (hs : s.size ≤ 1000000) (hG : Glob0 w) : Calls Tryd.prog 8 #[.string s] w fun e w' => e = .returned (.tuple #[.agg #[.int .i64 (parR s.data.toList).1.1, .int .i64 (parR s.data.toList).1.2], .int .i64 (parR s.data.toList).2]) ∧ Below w.heap.size w w' := by
  have HG := Lib.hid hG
  have CC := Lib.hid (fun W hG => cut2_any s W hs hG)
  have hza : (Lib.cut s.data.toList [46, 46]).1.length ≤ 1000000 ∧ (Lib.cut s.data.toList [46, 46]).2.1.length ≤ 1000000 := by
    have hl : s.data.toList.length = s.size := (Lib.size_eq s).symm
    unfold Lib.cut
    split
    · simp only [List.length_take, List.length_drop]; omega
    · simp; omega
  rcases hcut : Lib.cut s.data.toList [46, 46] with ⟨a, b, f⟩
  have hP := par_cut hcut
  rw [hcut] at CC hza
  dsimp only at hza
  have CC2 : Hid (∀ W, Glob0 W → Calls Tryd.prog 22 #[.string s, .string ⟨#[46, 46]⟩] W fun e w' => e = .returned (.tuple #[.string ⟨a.toArray⟩, .string ⟨b.toArray⟩, .bool f]) ∧ Below W.heap.size W w') := CC
  unfold parR
  have CA := Lib.hid (fun W hG => read_any ⟨a.toArray⟩ W (by rw [Lib.size_eq]; exact hza.1) hG)
  have CB := Lib.hid (fun W hG => read_any ⟨b.toArray⟩ W (by rw [Lib.size_eq]; exact hza.2) hG)
  generalize hR : parS s.data.toList = R at *
  clear hG hs hza hcut hR CC
  cases f with
  | false =>
    rw [if_neg (by decide)] at hP
    subst hP
    dsimp only
    have B0 := Lib.hid (blk_new w (.cells #[.int .i64 0, .int .i64 0] 23))
    go_enter Tryd.func8, Tryd.ntmps8
    go_wp2_with (first
      | (go_at_call 22; refine (CC2.out _ (gstep HG.out (by repeat' (first | exact Below.refl _ _ | assumption | apply bDrewN | apply bDrew | apply bAlloc | (refine bSet ?_ ?_ _) | (refine bStep ?_ (by assumption)) | omega | (simp <;> omega))))).mono ?_; rintro e w1 ⟨rfl, hb1⟩; replace B0 := Lib.hid (blk_step B0.out hb1); obtain ⟨c0, c1, z0, z1, k0⟩ := rb_open B0.out)
      | (go_at_call 23; (with_reducible refine (CA.out _ (gstep HG.out (by repeat' (first | exact Below.refl _ _ | assumption | apply bDrewN | apply bDrew | apply bAlloc | (refine bSet ?_ ?_ _) | (refine bStep ?_ (by assumption)) | omega | (simp <;> omega))))).mono ?_); rintro e w2 ⟨⟨v1, b1, rfl, -⟩, hb2⟩; replace B0 := Lib.hid (blk_step B0.out hb2); obtain ⟨c0, c1, z0, z1, k0⟩ := rb_open B0.out)
      | (go_at_call 23; (with_reducible refine (CB.out _ (gstep HG.out (by repeat' (first | exact Below.refl _ _ | assumption | apply bDrewN | apply bDrew | apply bAlloc | (refine bSet ?_ ?_ _) | (refine bStep ?_ (by assumption)) | omega | (simp <;> omega))))).mono ?_); rintro e w3 ⟨⟨v2, b2, rfl, -⟩, hb3⟩; replace B0 := Lib.hid (blk_step B0.out hb3); obtain ⟨c0, c1, z0, z1, k0⟩ := rb_open B0.out))
    exact bodyPost_ret (v := .tuple #[.agg #[.int .i64 0, .int .i64 0], .int .i64 8]) (by simp only [results, Tryd.results8]; go_simp) rfl ⟨rfl, (by repeat' (first | exact Below.refl _ _ | assumption | apply bDrewN | apply bDrew | apply bAlloc | (refine bSet ?_ ?_ _) | (refine bStep ?_ (by assumption)) | omega | (simp <;> omega)))⟩
  | true =>
    rw [if_pos rfl] at hP
    have HA : Hid (∀ v b, RdIs ⟨a.toArray⟩ v b → (rd a = some v ∧ b = true) ∨ (rd a = none ∧ b = false)) := fun v b h => h
    have HB : Hid (∀ v b1, RdIs ⟨b.toArray⟩ v b1 → (rd b = some v ∧ b1 = true) ∨ (rd b = none ∧ b1 = false)) := fun v b h => h
    cases ha : rd a with
    | none =>
      have DA : Hid (∀ W, Glob0 W → Calls Tryd.prog 23 #[.string ⟨a.toArray⟩] W fun e w' => (∃ v, e = .returned (.tuple #[.int .i64 v, .bool false])) ∧ Below W.heap.size W w') := (fun W hG => (CA.out W hG).mono fun e w' h => by
        obtain ⟨⟨v, b0, rfl, hr⟩, hbb⟩ := h
        rcases HA.out _ _ hr with ⟨h1, rfl⟩ | ⟨h1, rfl⟩
        · rw [ha] at h1; cases h1
        · exact ⟨⟨v, rfl⟩, hbb⟩)
      rw [ha] at hP
      dsimp only at hP
      subst hP
      dsimp only
      clear CA HA HB ha
      have CA := DA
      clear DA
      have B0 := Lib.hid (blk_new w (.cells #[.int .i64 0, .int .i64 0] 23))
      go_enter Tryd.func8, Tryd.ntmps8
      go_wp2_with (first
        | (go_at_call 22; refine (CC2.out _ (gstep HG.out (by repeat' (first | exact Below.refl _ _ | assumption | apply bDrewN | apply bDrew | apply bAlloc | (refine bSet ?_ ?_ _) | (refine bStep ?_ (by assumption)) | omega | (simp <;> omega))))).mono ?_; rintro e w1 ⟨rfl, hb1⟩; replace B0 := Lib.hid (blk_step B0.out hb1); obtain ⟨c0, c1, z0, z1, k0⟩ := rb_open B0.out)
        | (go_at_call 23; (with_reducible refine (CA.out _ (gstep HG.out (by repeat' (first | exact Below.refl _ _ | assumption | apply bDrewN | apply bDrew | apply bAlloc | (refine bSet ?_ ?_ _) | (refine bStep ?_ (by assumption)) | omega | (simp <;> omega))))).mono ?_); rintro e w2 ⟨⟨v1, rfl⟩, hb2⟩; replace B0 := Lib.hid (blk_step B0.out hb2); obtain ⟨c0, c1, z0, z1, k0⟩ := rb_open B0.out)
        | (go_at_call 23; (with_reducible refine (CB.out _ (gstep HG.out (by repeat' (first | exact Below.refl _ _ | assumption | apply bDrewN | apply bDrew | apply bAlloc | (refine bSet ?_ ?_ _) | (refine bStep ?_ (by assumption)) | omega | (simp <;> omega))))).mono ?_); rintro e w3 ⟨⟨v2, b2, rfl, -⟩, hb3⟩; replace B0 := Lib.hid (blk_step B0.out hb3); obtain ⟨c0, c1, z0, z1, k0⟩ := rb_open B0.out))
      exact bodyPost_ret (v := .tuple #[.agg #[.int .i64 0, .int .i64 0], .int .i64 8]) (by simp only [results, Tryd.results8]; go_simp) rfl ⟨rfl, (by repeat' (first | exact Below.refl _ _ | assumption | apply bDrewN | apply bDrew | apply bAlloc | (refine bSet ?_ ?_ _) | (refine bStep ?_ (by assumption)) | omega | (simp <;> omega)))⟩
    | some x =>
      have DA : Hid (∀ W, Glob0 W → Calls Tryd.prog 23 #[.string ⟨a.toArray⟩] W fun e w' => e = .returned (.tuple #[.int .i64 x, .bool true]) ∧ Below W.heap.size W w') := (fun W hG => (CA.out W hG).mono fun e w' h => by
        obtain ⟨⟨v, b0, rfl, hr⟩, hbb⟩ := h
        rcases HA.out _ _ hr with ⟨h1, rfl⟩ | ⟨h1, rfl⟩
        · rw [ha] at h1; obtain rfl := Option.some.inj h1; exact ⟨rfl, hbb⟩
        · rw [ha] at h1; cases h1)
      clear CA
      have CA := DA
      clear DA
      cases hb : rd b with
      | none =>
        have DB : Hid (∀ W, Glob0 W → Calls Tryd.prog 23 #[.string ⟨b.toArray⟩] W fun e w' => (∃ v, e = .returned (.tuple #[.int .i64 v, .bool false])) ∧ Below W.heap.size W w') := (fun W hG => (CB.out W hG).mono fun e w' h => by
          obtain ⟨⟨v, b0, rfl, hr⟩, hbb⟩ := h
          rcases HB.out _ _ hr with ⟨h1, rfl⟩ | ⟨h1, rfl⟩
          · rw [hb] at h1; cases h1
          · exact ⟨⟨v, rfl⟩, hbb⟩)
        rw [ha, hb] at hP
        dsimp only at hP
        subst hP
        dsimp only
        clear CB HA HB ha hb
        have CB := DB
        clear DB
        have B0 := Lib.hid (blk_new w (.cells #[.int .i64 0, .int .i64 0] 23))
        go_enter Tryd.func8, Tryd.ntmps8
        go_wp2_with (first
          | (go_at_call 22; refine (CC2.out _ (gstep HG.out (by repeat' (first | exact Below.refl _ _ | assumption | apply bDrewN | apply bDrew | apply bAlloc | (refine bSet ?_ ?_ _) | (refine bStep ?_ (by assumption)) | omega | (simp <;> omega))))).mono ?_; rintro e w1 ⟨rfl, hb1⟩; replace B0 := Lib.hid (blk_step B0.out hb1); obtain ⟨c0, c1, z0, z1, k0⟩ := rb_open B0.out)
          | (go_at_call 23; (with_reducible refine (CA.out _ (gstep HG.out (by repeat' (first | exact Below.refl _ _ | assumption | apply bDrewN | apply bDrew | apply bAlloc | (refine bSet ?_ ?_ _) | (refine bStep ?_ (by assumption)) | omega | (simp <;> omega))))).mono ?_); rintro e w2 ⟨rfl, hb2⟩; replace B0 := Lib.hid (blk_step B0.out hb2); obtain ⟨c0, c1, z0, z1, k0⟩ := rb_open B0.out)
          | (go_at_call 23; (with_reducible refine (CB.out _ (gstep HG.out (by repeat' (first | exact Below.refl _ _ | assumption | apply bDrewN | apply bDrew | apply bAlloc | (refine bSet ?_ ?_ _) | (refine bStep ?_ (by assumption)) | omega | (simp <;> omega))))).mono ?_); rintro e w3 ⟨⟨v2, rfl⟩, hb3⟩; replace B0 := Lib.hid (blk_step B0.out hb3); obtain ⟨c0, c1, z0, z1, k0⟩ := rb_open B0.out))
        exact bodyPost_ret (v := .tuple #[.agg #[.int .i64 0, .int .i64 0], .int .i64 8]) (by simp only [results, Tryd.results8]; go_simp) rfl ⟨rfl, (by repeat' (first | exact Below.refl _ _ | assumption | apply bDrewN | apply bDrew | apply bAlloc | (refine bSet ?_ ?_ _) | (refine bStep ?_ (by assumption)) | omega | (simp <;> omega)))⟩
      | some y =>
        have DB : Hid (∀ W, Glob0 W → Calls Tryd.prog 23 #[.string ⟨b.toArray⟩] W fun e w' => e = .returned (.tuple #[.int .i64 y, .bool true]) ∧ Below W.heap.size W w') := (fun W hG => (CB.out W hG).mono fun e w' h => by
          obtain ⟨⟨v, b0, rfl, hr⟩, hbb⟩ := h
          rcases HB.out _ _ hr with ⟨h1, rfl⟩ | ⟨h1, rfl⟩
          · rw [hb] at h1; obtain rfl := Option.some.inj h1; exact ⟨rfl, hbb⟩
          · rw [hb] at h1; cases h1)
        clear CB
        have CB := DB
        clear DB
        rw [ha, hb] at hP
        dsimp only at hP
        cases hk : okS (x, y)
        · rw [if_neg (fun h => by rw [okS_P.2 (show okP (x, y) from h)] at hk; cases hk)] at hP
          subst hP
          dsimp only
          clear HA HB ha hb
          have B0 := Lib.hid (blk_new w (.cells #[.int .i64 0, .int .i64 0] 23))
          go_enter Tryd.func8, Tryd.ntmps8
          go_wp2_with (first
            | (go_at_call 22; refine (CC2.out _ (gstep HG.out (by repeat' (first | exact Below.refl _ _ | assumption | apply bDrewN | apply bDrew | apply bAlloc | (refine bSet ?_ ?_ _) | (refine bStep ?_ (by assumption)) | omega | (simp <;> omega))))).mono ?_; rintro e w1 ⟨rfl, hb1⟩; replace B0 := Lib.hid (blk_step B0.out hb1); obtain ⟨c0, c1, z0, z1, k0⟩ := rb_open B0.out)
            | (go_at_call 23; (with_reducible refine (CA.out _ (gstep HG.out (by repeat' (first | exact Below.refl _ _ | assumption | apply bDrewN | apply bDrew | apply bAlloc | (refine bSet ?_ ?_ _) | (refine bStep ?_ (by assumption)) | omega | (simp <;> omega))))).mono ?_); rintro e w2 ⟨rfl, hb2⟩; replace B0 := Lib.hid (blk_step B0.out hb2); obtain ⟨c0, c1, z0, z1, k0⟩ := rb_open B0.out)
            | (go_at_call 23; (with_reducible refine (CB.out _ (gstep HG.out (by repeat' (first | exact Below.refl _ _ | assumption | apply bDrewN | apply bDrew | apply bAlloc | (refine bSet ?_ ?_ _) | (refine bStep ?_ (by assumption)) | omega | (simp <;> omega))))).mono ?_); rintro e w3 ⟨rfl, hb3⟩; replace B0 := Lib.hid (blk_step B0.out hb3); obtain ⟨c0, c1, z0, z1, k0⟩ := rb_open B0.out)
            | (go_at_call 18; refine (valid_oneN _ _ _ _ _ _ _ (by simp)).mono ?_; rintro e w4 ⟨rfl, hb4⟩; have X0 := blk_step (blk_alloc (blk_new w3 (.cells #[.int .i64 x, .int .i64 y] 23))) hb4; replace B0 := Lib.hid (blk_step (blk_alloc (blk_alloc B0.out)) hb4); obtain ⟨c0, c1, z0, z1, k0⟩ := rb_open B0.out; have c2 := blk_cell (v := .int .i64 x) (o := 0) X0 rfl; have c3 := blk_cell (v := .int .i64 y) (o := 1) X0 rfl))
          exact bodyPost_ret (v := .tuple #[.agg #[.int .i64 0, .int .i64 0], .int .i64 8]) (by simp only [results, Tryd.results8]; go_simp) rfl ⟨rfl, (by repeat' (first | exact Below.refl _ _ | assumption | apply bDrewN | apply bDrew | apply bAlloc | (refine bSet ?_ ?_ _) | (refine bStep ?_ (by assumption)) | omega | (simp <;> omega)))⟩
        · rw [if_pos (show -1099511627776 ≤ x ∧ x ≤ y ∧ y ≤ 1099511627776 from okS_P.1 hk)] at hP
          subst hP
          dsimp only
          clear HA HB ha hb
          have B0 := Lib.hid (blk_new w (.cells #[.int .i64 0, .int .i64 0] 23))
          go_enter Tryd.func8, Tryd.ntmps8
          go_wp2_with (first
            | (go_at_call 22; refine (CC2.out _ (gstep HG.out (by repeat' (first | exact Below.refl _ _ | assumption | apply bDrewN | apply bDrew | apply bAlloc | (refine bSet ?_ ?_ _) | (refine bStep ?_ (by assumption)) | omega | (simp <;> omega))))).mono ?_; rintro e w1 ⟨rfl, hb1⟩; replace B0 := Lib.hid (blk_step B0.out hb1); obtain ⟨c0, c1, z0, z1, k0⟩ := rb_open B0.out)
            | (go_at_call 23; (with_reducible refine (CA.out _ (gstep HG.out (by repeat' (first | exact Below.refl _ _ | assumption | apply bDrewN | apply bDrew | apply bAlloc | (refine bSet ?_ ?_ _) | (refine bStep ?_ (by assumption)) | omega | (simp <;> omega))))).mono ?_); rintro e w2 ⟨rfl, hb2⟩; replace B0 := Lib.hid (blk_step B0.out hb2); obtain ⟨c0, c1, z0, z1, k0⟩ := rb_open B0.out)
            | (go_at_call 23; (with_reducible refine (CB.out _ (gstep HG.out (by repeat' (first | exact Below.refl _ _ | assumption | apply bDrewN | apply bDrew | apply bAlloc | (refine bSet ?_ ?_ _) | (refine bStep ?_ (by assumption)) | omega | (simp <;> omega))))).mono ?_); rintro e w3 ⟨rfl, hb3⟩; replace B0 := Lib.hid (blk_step B0.out hb3); obtain ⟨c0, c1, z0, z1, k0⟩ := rb_open B0.out)
            | (go_at_call 18; refine (valid_oneN _ _ _ _ _ _ _ (by simp)).mono ?_; rintro e w4 ⟨rfl, hb4⟩; have X0 := blk_step (blk_alloc (blk_new w3 (.cells #[.int .i64 x, .int .i64 y] 23))) hb4; replace B0 := Lib.hid (blk_step (blk_alloc (blk_alloc B0.out)) hb4); obtain ⟨c0, c1, z0, z1, k0⟩ := rb_open B0.out; have c2 := blk_cell (v := .int .i64 x) (o := 0) X0 rfl; have c3 := blk_cell (v := .int .i64 y) (o := 1) X0 rfl))
          exact bodyPost_ret (v := .tuple #[.agg #[.int .i64 x, .int .i64 y], .int .i64 0]) (by simp only [results, Tryd.results8]; go_simp) rfl ⟨rfl, (by repeat' (first | exact Below.refl _ _ | assumption | apply bDrewN | apply bDrew | apply bAlloc | (refine bSet ?_ ?_ _) | (refine bStep ?_ (by assumption)) | omega | (simp <;> omega)))⟩
end Go.Proofs.YtolnbblikfpnbaaDoor

/-
  The reference's Valid, Text, Parse.
-/
set_option linter.unusedSimpArgs false
set_option linter.unusedVariables false
namespace Go.Proofs.YtolnbblikfpnbaaDoor
open Sx Go.RowKit
set_option maxHeartbeats 400000 in
theorem Valid_any (a b : Int) (w : World) : Calls Tryd.prog 20 #[.agg #[.int .i64 a, .int .i64 b]] w fun e w' => e = .returned (.bool (okS (a, b))) ∧ Below w.heap.size w w' := by
  have hq : okS (a, b) = (isQ a && isQ b && decide (a ≤ b)) := rfl
  rw [hq]; clear hq
  cases h1 : isQ a <;> cases h2 : isQ b <;> cases h3 : decide (a ≤ b)
  all_goals
    go_enter Tryd.func20, Tryd.ntmps20
    go_wp2_with (go_at_call 39; refine (Is_any _ _).mono ?_; rintro e w' ⟨rfl, rfl⟩)
    go_ret
    exact ⟨rfl, (by repeat' (first | exact Below.refl _ _ | assumption | apply bDrewN | apply bDrew | apply bAlloc | (refine bSet ?_ ?_ _) | (refine bStep ?_ (by assumption)) | omega | (simp <;> omega)))⟩
/-- A place at which the reference's Parse finds a span. -/
def hit (l : List UInt8) (j : Nat) : Bool := Lib.occAt l [46, 46] j && isN (l.take j) && isN (l.drop (j + 2)) && okS (sv (l.take j), sv (l.drop (j + 2)))
theorem hit_txt {l : List UInt8} {j : Nat} (h : hit l j = true) (hj : j ≤ l.length) : parS l = some (sv (l.take j), sv (l.drop (j + 2))) := by
  unfold hit at h
  simp only [Bool.and_eq_true] at h
  obtain ⟨⟨⟨h1, h2⟩, h3⟩, h4⟩ := h
  obtain ⟨r, hr⟩ := occ_iff.1 h1
  have e : l.drop (j + 2) = r := by rw [← List.drop_drop, hr]; rfl
  have hl := occ_txt hr hj
  rw [← e] at hl
  have ht : l = txtP (sv (l.take j), sv (l.drop (j + 2))) := by
    unfold txtP
    dsimp only
    rw [(isN_iff.1 h2).2, (isN_iff.1 h3).2]
    exact hl
  generalize sv (l.take j) = x at *
  generalize sv (l.drop (j + 2)) = y at *
  rw [ht]
  exact parS_some (okS_P.1 h4)
theorem no_hit {l : List UInt8} (h : ∀ j, j + 1 < l.length → hit l j = false) : parS l = none := by
  refine parS_none fun p hp e => ?_
  have hlen : (Lib.itoa p.1).length + 1 < l.length := by rw [e]; unfold txtP; simp
  have h1 := h _ hlen
  have e1 : l.take (Lib.itoa p.1).length = Lib.itoa p.1 := by rw [e]; unfold txtP; simp
  have e2 : l.drop ((Lib.itoa p.1).length + 2) = Lib.itoa p.2 := by rw [e]; unfold txtP; simp
  have e3 : Lib.occAt l [46, 46] (Lib.itoa p.1).length = true := occ_iff.2 ⟨Lib.itoa p.2, by rw [e]; unfold txtP; simp⟩
  have b := hp
  obtain ⟨b1, b2, b3⟩ := b
  unfold hit at h1
  rw [e1, e2, e3, sv_itoa, sv_itoa, isN_itoa (okP_len b1 (by omega)), isN_itoa (okP_len (by omega) b3)] at h1
  rw [show okS (p.1, p.2) = true from okS_P.2 hp] at h1
  cases h1
theorem occ_at {l : List UInt8} {j : Nat} (h : j + 1 < l.length) : Lib.occAt l [46, 46] j = (decide (l[j]'(by omega) = 46) && decide (l[j + 1] = 46)) := by
  have e : l.drop j = l[j]'(by omega) :: l[j + 1] :: l.drop (j + 2) := by
    rw [List.drop_eq_getElem_cons (by omega), List.drop_eq_getElem_cons h]
  unfold Lib.occAt
  rw [e]
  generalize l[j]'(by omega) = a
  generalize l[j + 1] = b
  simp only [List.isPrefixOf, Bool.and_true]
  by_cases h1 : a = 46 <;> by_cases h2 : b = 46 <;> simp [h1, h2] <;> first | rfl | (intro q; exact absurd q.symm h2) | (intro q; exact absurd q.symm h1) | skip
set_option maxHeartbeats 1000000 in
set_option maxRecDepth 20000 in
theorem RText_any (p : Int × Int) (w : World) : Calls Tryd.prog 7 #[.agg #[.int .i64 p.1, .int .i64 p.2]] w fun e w' => e = .returned (.tuple #[.string (textR p).1, .int .i64 (textR p).2]) ∧ Below w.heap.size w w' := by
  obtain ⟨x, y⟩ := p
  unfold textR
  have V := Lib.hid (fun w => Valid_any x y w)
  cases hk : okS (x, y)
  · rw [if_neg (by decide)]
    rw [hk] at V
    dsimp only
    go_enter Tryd.func7, Tryd.ntmps7
    go_wp2_with (go_at_call 20; refine (V.out _).mono ?_; rintro e w1 ⟨rfl, hb1⟩; obtain ⟨hcw1, hfw1⟩ := bcell hb1; have hzw1 := Below.size hb1; (try simp at hzw1); have hzw10 : w.heap.size < w1.heap.size := (by omega))
    exact bodyPost_ret (v := .tuple #[.string ⟨#[]⟩, .int .i64 2]) (by simp only [results, Tryd.results7]; go_simp) rfl ⟨rfl, (by repeat' (first | exact Below.refl _ _ | assumption | apply bDrewN | apply bDrew | apply bAlloc | (refine bSet ?_ ?_ _) | (refine bStep ?_ (by assumption)) | omega | (simp <;> omega)))⟩
  · rw [if_pos rfl]
    rw [hk] at V
    dsimp only
    obtain ⟨b1, b2, b3⟩ := okS_P.1 hk
    dsimp only at b1 b2 b3
    have C1 := Lib.hid (fun W => Digits_any x (by omega) (by omega) W)
    have C2 := Lib.hid (fun W => Digits_any y (by omega) (by omega) W)
    have l1 := okP_len b1 (by omega)
    have l2 := okP_len (by omega) b3
    unfold txtP
    dsimp only
    generalize Lib.itoa x = lx at *
    generalize Lib.itoa y = ly at *
    have q1 : ¬ 9223372036854775807 < lx.length + 2 := by omega
    have q2 : ¬ 9223372036854775807 < lx.length + 2 + ly.length := by omega
    clear b1 b2 b3 l1 l2
    go_enter Tryd.func7, Tryd.ntmps7
    go_wp2_with (go_at_call 20; refine (V.out _).mono ?_; rintro e w1 ⟨rfl, hb⟩)
    have c0 : w1.cell? ⟨w.heap.size, 0, none⟩ = some (.int .i64 x) := (hb.cell (p := ⟨w.heap.size, 0, none⟩) (by simp)).trans (by go_simp)
    have c1 : w1.cell? ⟨w.heap.size, 1, none⟩ = some (.int .i64 y) := (hb.cell (p := ⟨w.heap.size, 1, none⟩) (by simp)).trans (by go_simp)
    have f0 : ∀ s : WStep w1, s.1.cell? ⟨w.heap.size, 0, none⟩ = some (.int .i64 x) := fun s => cell_step c0 s.2
    have f1 : ∀ s : WStep w1, s.1.cell? ⟨w.heap.size, 1, none⟩ = some (.int .i64 y) := fun s => cell_step c1 s.2
    have HK := Lib.hid (bStep (bAlloc (Below.refl w.heap.size w) _) hb)
    have CX := Lib.hid (fun s : WStep w1 => step_call s (C1.out s.1))
    have CY := Lib.hid (fun s : WStep w1 => step_call s (C2.out s.1))
    clear c0 c1 C1 C2 hb
    refine wp_region_step (by kernel_rfl) (by kernel_rfl) ?_
    repeat (quiet_step (first | (with_reducible exact CX.out _) | (with_reducible exact CY.out _)))
    refine wpQuiet_nil ?_
    intro _ hw'
    obtain ⟨⟨W2, hW2⟩, hw''⟩ := hw'
    dsimp only at hw''
    subst hw''
    go_wp2_with fail
    exact bodyPost_ret (v := .tuple #[.string ((⟨lx.toArray⟩ ++ ⟨#[46, 46]⟩) ++ ⟨ly.toArray⟩), .int .i64 0]) (by simp only [results, Tryd.results7]; go_simp) rfl ⟨by rw [txt_app'], bStep HK.out hW2⟩
theorem ext_take {s : ByteArray} {k : Nat} : (s.extract 0 k).data.toList = s.data.toList.take k := by rw [Lib.extract_eq]; simp
theorem ext_drop {s : ByteArray} {k : Nat} : (s.extract k s.size).data.toList = s.data.toList.drop k := by
  rw [Lib.extract_eq]
  simp only [List.toList_toArray]
  exact List.take_of_length_le (by rw [List.length_drop, ← Lib.size_eq]; exact Nat.le_refl _)
theorem parR_some {l : List UInt8} {p : Int × Int} (h : parS l = some p) : parR l = (p, 0) := by unfold parR; rw [h]
theorem parR_none {l : List UInt8} (h : parS l = none) : parR l = ((0, 0), 8) := by unfold parR; rw [h]
theorem ne46 {c : UInt8} (h : ¬ c = 46) : ((c.toNat : Int) != 46) = true := by
  simp only [bne_iff_ne, ne_eq]
  intro q
  exact h (UInt8.toNat_inj.1 (by rw [show (46 : UInt8).toNat = 46 from rfl]; omega))
/-- Number, told by the number that is asked for. -/
theorem Number_no {s : ByteArray} {l : List UInt8} (e : s.data.toList = l) (h : isN l = false) (w : World) : Calls Tryd.prog 24 #[.string s] w fun e w' => (∃ v, e = .returned (.tuple #[.int .i64 v, .bool false])) ∧ Below w.heap.size w w' := by
  have q := Number_any s w
  rw [e, h] at q
  exact q.mono fun e w' h => by
    obtain ⟨⟨v, rfl, -⟩, hb⟩ := h
    exact ⟨⟨v, rfl⟩, hb⟩
theorem Number_yes {s : ByteArray} {l : List UInt8} {x : Int} (e : s.data.toList = l) (h : isN l = true) (hx : sv l = x) (w : World) : Calls Tryd.prog 24 #[.string s] w fun e w' => e = .returned (.tuple #[.int .i64 x, .bool true]) ∧ Below w.heap.size w w' := by
  have q := Number_any s w
  rw [e, h, hx] at q
  exact q.mono fun e w' h => by
    obtain ⟨⟨v, rfl, hv⟩, hb⟩ := h
    rw [hv rfl]
    exact ⟨rfl, hb⟩
theorem val3 {r : (Int × Int) × Int} {x y e a b c : Int} (h1 : r = ((x, y), e)) (h2 : r = ((a, b), c)) : Ending.returned (.tuple #[.agg #[.int .i64 a, .int .i64 b], .int .i64 c]) = Ending.returned (.tuple #[.agg #[.int .i64 x, .int .i64 y], .int .i64 e]) := by
  rw [h1] at h2
  cases h2
  rfl
set_option maxHeartbeats 4000000 in
set_option maxRecDepth 20000 in
theorem RParse_any (s : ByteArray) (w : World) (hs : s.size ≤ 1000000) : Calls Tryd.prog 9 #[.string s] w fun e w' => e = .returned (.tuple #[.agg #[.int .i64 (parR s.data.toList).1.1, .int .i64 (parR s.data.toList).1.2], .int .i64 (parR s.data.toList).2]) ∧ Below w.heap.size w w' := by
  rcases hR : parR s.data.toList with ⟨⟨rx, ry⟩, re⟩
  have HR := Lib.hid hR
  clear hR
  dsimp only
  have hsz : s.data.toList.length = s.size := (Lib.size_eq s).symm
  have B0 := Lib.hid (blk_new w (.cells #[.int .i64 0, .int .i64 0] 23))
  go_enter Tryd.func9, Tryd.ntmps9
  go_wp2_with fail
  go_loopw [4, 5, 6, 7, 8, 9] (fun i _ _ _ _ _ wr => ∃ k : Nat, k ≤ s.size ∧ i = .int .i64 k ∧ Hid (∀ j, j < k → hit s.data.toList j = false) ∧ Hid (wr.heap[w.heap.size]? = some (.cells #[.int .i64 0, .int .i64 0] 23)) ∧ Below w.heap.size w wr) (fun i _ _ _ _ _ _ => s.size - (intOf i).toNat)
  case atStart => exact ⟨0, by omega, rfl, fun j hj => absurd hj (Nat.not_lt_zero _), B0.out, (by repeat' (first | exact Below.refl _ _ | assumption | apply bDrewN | apply bDrew | apply bAlloc | (refine bSet ?_ ?_ _) | (refine bStep ?_ (by assumption)) | omega | (simp <;> omega)))⟩
  case round =>
    obtain ⟨k, hk, rfl, HH, HB, kB⟩ := hrel
    obtain ⟨c0, c1, z0, z1, k0⟩ := rb_open HB.out
    by_cases hk2 : k + 1 < s.size
    · have hk3 : (k : Int) + 1 < s.size := by omega
      have hk4 : k < s.size := by omega
      have hkl : k + 1 < s.data.toList.length := by omega
      have g0 : s.data.toList[k]'(by omega) = s[k] := Array.getElem_toList _
      have g1 : s.data.toList[k + 1]'hkl = s[k + 1] := Array.getElem_toList _
      have ho := occ_at hkl
      rw [g0, g1] at ho
      clear g0 g1
      by_cases h0 : s[k] = 46
      · have d0 : ((s[k].toNat : Int) != 46) = false := by rw [h0]; rfl
        by_cases h1 : s[k + 1] = 46
        · have d1 : ((s[k + 1].toNat : Int) != 46) = false := by rw [h1]; rfl
          rw [decide_eq_true h0, decide_eq_true h1] at ho
          have B1 := Lib.hid HB.out
          have hht : Hid (hit s.data.toList k = (isN (s.data.toList.take k) && isN (s.data.toList.drop (k + 2)) && okS (sv (s.data.toList.take k), sv (s.data.toList.drop (k + 2))))) := by unfold Hid hit; rw [ho]; simp
          have hsome := fun h => parR_some (hit_txt (l := s.data.toList) (j := k) h (by omega))
          have ea := ext_take (s := s) (k := k)
          have eb := ext_drop (s := s) (k := k + 2)
          clear ho h0 h1
          generalize s.data.toList.take k = la at *
          generalize s.data.toList.drop (k + 2) = lb at *
          cases hna : isN la with
          | false =>
            have CA := Lib.hid (fun W => Number_no ea hna W)
            have CB := Lib.hid (fun W => Number_any (s.extract (k + 2) s.size) W)
            have HX : Hid (hit s.data.toList k = false) := by unfold Hid; rw [hht.out, hna]; rfl
            clear hht hsome hna ea eb
            go_wp2_with (first
            | (go_at_call 24; (with_reducible refine (CA.out _).mono ?_); rintro e w2 ⟨⟨v1, rfl⟩, hb2⟩; replace B1 := Lib.hid (blk_step B1.out hb2); obtain ⟨c0, c1, z0, z1, k0⟩ := rb_open B1.out)
            | (go_at_call 24; (with_reducible refine (CB.out _).mono ?_); rintro e w3 ⟨⟨v2, rfl, -⟩, hb3⟩; replace B1 := Lib.hid (blk_step B1.out hb3); obtain ⟨c0, c1, z0, z1, k0⟩ := rb_open B1.out))
            refine ⟨⟨k + 1, by omega, by push_cast; rfl, fun j hj => ?_, by first | exact B1.out | exact blk_alloc B1.out, (by repeat' (first | exact Below.refl _ _ | assumption | apply bDrewN | apply bDrew | apply bAlloc | (refine bSet ?_ ?_ _) | (refine bStep ?_ (by assumption)) | omega | (simp <;> omega)))⟩, by simp [intOf]; omega⟩
            rcases Nat.lt_or_ge j k with h | h
            · exact HH.out j h
            · obtain rfl : j = k := by omega
              exact HX.out
          | true =>
            obtain ⟨x, hx⟩ : ∃ x, sv la = x := ⟨_, rfl⟩
            have CA := Lib.hid (fun W => Number_yes ea hna hx W)
            cases hnb : isN lb with
            | false =>
              have CB := Lib.hid (fun W => Number_no eb hnb W)
              have HX : Hid (hit s.data.toList k = false) := by unfold Hid; rw [hht.out, hnb]; simp
              clear hht hsome hna hnb ea eb hx
              go_wp2_with (first
              | (go_at_call 24; (with_reducible refine (CA.out _).mono ?_); rintro e w2 ⟨rfl, hb2⟩; replace B1 := Lib.hid (blk_step B1.out hb2); obtain ⟨c0, c1, z0, z1, k0⟩ := rb_open B1.out)
              | (go_at_call 24; (with_reducible refine (CB.out _).mono ?_); rintro e w3 ⟨⟨v2, rfl⟩, hb3⟩; replace B1 := Lib.hid (blk_step B1.out hb3); obtain ⟨c0, c1, z0, z1, k0⟩ := rb_open B1.out))
              refine ⟨⟨k + 1, by omega, by push_cast; rfl, fun j hj => ?_, by first | exact B1.out | exact blk_alloc B1.out, (by repeat' (first | exact Below.refl _ _ | assumption | apply bDrewN | apply bDrew | apply bAlloc | (refine bSet ?_ ?_ _) | (refine bStep ?_ (by assumption)) | omega | (simp <;> omega)))⟩, by simp [intOf]; omega⟩
              rcases Nat.lt_or_ge j k with h | h
              · exact HH.out j h
              · obtain rfl : j = k := by omega
                exact HX.out
            | true =>
              obtain ⟨y, hy⟩ : ∃ y, sv lb = y := ⟨_, rfl⟩
              have CB := Lib.hid (fun W => Number_yes eb hnb hy W)
              have CV := Lib.hid (fun W => Valid_any x y W)
              rw [hx, hy] at hsome
              have hht2 := hht.out
              rw [hx, hy, hna, hnb] at hht2
              cases hk9 : okS (x, y) with
              | false =>
                rw [hk9] at CV hht2
                have HX : Hid (hit s.data.toList k = false) := by unfold Hid; rw [hht2]; rfl
                clear hht hht2 hsome hna hnb ea eb hx hy hk9
                go_wp2_with (first
                | (go_at_call 24; (with_reducible refine (CA.out _).mono ?_); rintro e w2 ⟨rfl, hb2⟩; replace B1 := Lib.hid (blk_step B1.out hb2); obtain ⟨c0, c1, z0, z1, k0⟩ := rb_open B1.out)
                | (go_at_call 24; (with_reducible refine (CB.out _).mono ?_); rintro e w3 ⟨rfl, hb3⟩; replace B1 := Lib.hid (blk_step B1.out hb3); obtain ⟨c0, c1, z0, z1, k0⟩ := rb_open B1.out)
                | (go_at_call 20; refine (CV.out _).mono ?_; rintro e w4 ⟨rfl, hb4⟩; have X0 := blk_step (blk_new w3 (.cells #[.int .i64 x, .int .i64 y] 23)) hb4; replace B1 := Lib.hid (blk_step (blk_alloc B1.out) hb4); obtain ⟨c0, c1, z0, z1, k0⟩ := rb_open B1.out; have c2 := blk_cell (v := .int .i64 x) (o := 0) X0 rfl; have c3 := blk_cell (v := .int .i64 y) (o := 1) X0 rfl))
                refine ⟨⟨k + 1, by omega, by push_cast; rfl, fun j hj => ?_, by first | exact B1.out | exact blk_alloc B1.out, (by repeat' (first | exact Below.refl _ _ | assumption | apply bDrewN | apply bDrew | apply bAlloc | (refine bSet ?_ ?_ _) | (refine bStep ?_ (by assumption)) | omega | (simp <;> omega)))⟩, by simp [intOf]; omega⟩
                rcases Nat.lt_or_ge j k with h | h
                · exact HH.out j h
                · obtain rfl : j = k := by omega
                  exact HX.out
              | true =>
                rw [hk9] at CV hht2
                have HP := Lib.hid (hsome (by rw [hht2]; rfl))
                clear hht hht2 hsome hna hnb ea eb hx hy hk9
                go_wp2_with (first
                | (go_at_call 24; (with_reducible refine (CA.out _).mono ?_); rintro e w2 ⟨rfl, hb2⟩; replace B1 := Lib.hid (blk_step B1.out hb2); obtain ⟨c0, c1, z0, z1, k0⟩ := rb_open B1.out)
                | (go_at_call 24; (with_reducible refine (CB.out _).mono ?_); rintro e w3 ⟨rfl, hb3⟩; replace B1 := Lib.hid (blk_step B1.out hb3); obtain ⟨c0, c1, z0, z1, k0⟩ := rb_open B1.out)
                | (go_at_call 20; refine (CV.out _).mono ?_; rintro e w4 ⟨rfl, hb4⟩; have X0 := blk_step (blk_new w3 (.cells #[.int .i64 x, .int .i64 y] 23)) hb4; replace B1 := Lib.hid (blk_step (blk_alloc B1.out) hb4); obtain ⟨c0, c1, z0, z1, k0⟩ := rb_open B1.out; have c2 := blk_cell (v := .int .i64 x) (o := 0) X0 rfl; have c3 := blk_cell (v := .int .i64 y) (o := 1) X0 rfl))
                exact bodyPost_ret (v := .tuple #[.agg #[.int .i64 x, .int .i64 y], .int .i64 0]) (by simp only [results, Tryd.results9]; go_simp) rfl ⟨val3 HR.out HP.out, (by repeat' (first | exact Below.refl _ _ | assumption | apply bDrewN | apply bDrew | apply bAlloc | (refine bSet ?_ ?_ _) | (refine bStep ?_ (by assumption)) | omega | (simp <;> omega)))⟩
        · have d1 : ((s[k + 1].toNat : Int) != 46) = true := ne46 h1
          have hh : hit s.data.toList k = false := by unfold hit; rw [ho, decide_eq_false h1]; simp
          have HX := Lib.hid hh
          clear ho h0 h1 hh
          go_wp2_with fail
          all_goals
            refine ⟨⟨k + 1, by omega, by push_cast; rfl, fun j hj => ?_, HB, kB⟩, by simp [intOf]; omega⟩
            rcases Nat.lt_or_ge j k with h | h
            · exact HH.out j h
            · obtain rfl : j = k := by omega
              exact HX.out
      · have d0 : ((s[k].toNat : Int) != 46) = true := ne46 h0
        have hh : hit s.data.toList k = false := by unfold hit; rw [ho, decide_eq_false h0]; simp
        have HX := Lib.hid hh
        clear ho h0 hh
        go_wp2_with fail
        all_goals
            refine ⟨⟨k + 1, by omega, by push_cast; rfl, fun j hj => ?_, HB, kB⟩, by simp [intOf]; omega⟩
            rcases Nat.lt_or_ge j k with h | h
            · exact HH.out j h
            · obtain rfl : j = k := by omega
              exact HX.out
    · have hk3 : ¬ (k : Int) + 1 < s.size := by omega
      have hp := parR_none (no_hit (l := s.data.toList) fun j hj => HH.out j (by omega))
      have HP := Lib.hid hp
      clear hp HH
      go_wp2_with fail
      exact bodyPost_ret (v := .tuple #[.agg #[.int .i64 0, .int .i64 0], .int .i64 8]) (by simp only [results, Tryd.results9]; go_simp) rfl ⟨val3 HR.out HP.out, (by repeat' (first | exact Below.refl _ _ | assumption | apply bDrewN | apply bDrew | apply bAlloc | (refine bSet ?_ ?_ _) | (refine bStep ?_ (by assumption)) | omega | (simp <;> omega)))⟩
end Go.Proofs.YtolnbblikfpnbaaDoor

/-
  Contracts of Go's library, laid for this program.
-/
set_option linter.unusedSimpArgs false
set_option linter.unusedVariables false
namespace Go.Proofs.YtolnbblikfpnbaaDoor
open Go.Shelf
def lays156_ren : Go.Shelf.Ren := ⟨fun | 156 => 26 | 165 => 45 | 166 => 46 | 169 => 47 | 240 => 59 | 241 => 60 | 276 => 77 | 277 => 78 | n => n, fun | 31 => 51 | 9 => 9 | 3 => 3 | 4 => 4 | 0 => 0 | 20 => 20 | 72 => 76 | 76 => 78 | 70 => 73 | 37 => 74 | 75 => 64 | 127 => 90 | 164 => 108 | 5 => 5 | 80 => 80 | n => n, fun | n => n⟩
theorem lays156 : Go.Proofs.Lays.n156 Tryd.prog lays156_ren := {
  mixed := by kernel_rfl
  f156 := Tryd.func26.trans (congrArg some (by kernel_rfl))
  f165 := Tryd.func45.trans (congrArg some (by kernel_rfl))
  f166 := Tryd.func46.trans (congrArg some (by kernel_rfl))
  f169 := Tryd.func47.trans (congrArg some (by kernel_rfl))
  f240 := Tryd.func59.trans (congrArg some (by kernel_rfl))
  f241 := Tryd.func60.trans (congrArg some (by kernel_rfl))
  f276 := Tryd.func77.trans (congrArg some (by kernel_rfl))
  f277 := Tryd.func78.trans (congrArg some (by kernel_rfl))
  t0 := Tryd.underlying0
  a0 := Tryd.isAgg0
  z0 := Tryd.sizeOf0
  v0 := Tryd.zeroValue0
  t3 := Tryd.underlying3
  a3 := Tryd.isAgg3
  z3 := Tryd.sizeOf3
  v3 := Tryd.zeroValue3
  t4 := Tryd.underlying4
  a4 := Tryd.isAgg4
  z4 := Tryd.sizeOf4
  v4 := Tryd.zeroValue4
  t9 := Tryd.underlying9
  a9 := Tryd.isAgg9
  z9 := Tryd.sizeOf9
  v9 := Tryd.zeroValue9
  t20 := Tryd.underlying20
  a20 := Tryd.isAgg20
  z20 := Tryd.sizeOf20
  v20 := Tryd.zeroValue20
  t31 := Tryd.underlying51
  a31 := Tryd.isAgg51
  z31 := Tryd.sizeOf51
  v31 := Tryd.zeroValue51
  t37 := Tryd.underlying74
  a37 := Tryd.isAgg74
  z37 := Tryd.sizeOf74
  v37 := Tryd.zeroValue74
  t70 := Tryd.underlying73
  a70 := Tryd.isAgg73
  z70 := Tryd.sizeOf73
  v70 := Tryd.zeroValue73
  t72 := Tryd.underlying76
  a72 := Tryd.isAgg76
  z72 := Tryd.sizeOf76
  v72 := Tryd.zeroValue76
  t75 := Tryd.underlying64
  a75 := Tryd.isAgg64
  z75 := Tryd.sizeOf64
  v75 := Tryd.zeroValue64
  t76 := Tryd.underlying78
  a76 := Tryd.isAgg78
  z76 := Tryd.sizeOf78
  v76 := Tryd.zeroValue78
  t127 := Tryd.underlying90
  a127 := Tryd.isAgg90
  z127 := Tryd.sizeOf90
  v127 := Tryd.zeroValue90
  t164 := Tryd.underlying108
  a164 := Tryd.isAgg108
  z164 := Tryd.sizeOf108
  v164 := Tryd.zeroValue108 }
theorem Builder_Extra_156 : Builder.Extra Tryd.prog lays156_ren := {
  sizeBuilder := by kernel_rfl
  liesBuilder := by kernel_rfl
  t5 := Tryd.underlying5
  a5 := Tryd.isAgg5
  z5 := Tryd.sizeOf5
  v5 := Tryd.zeroValue5
  infoByte := by kernel_rfl
  cellsByte := by kernel_rfl
  sizeByte := by kernel_rfl
  neB5 := by decide }
def lays146_ren : Go.Shelf.Ren := ⟨fun | 146 => 28 | 221 => 48 | 268 => 61 | 138 => 62 | 143 => 63 | 195 => 79 | 197 => 80 | 218 => 81 | 219 => 54 | 260 => 94 | 217 => 68 | 225 => 69 | 224 => 70 | 267 => 71 | 266 => 87 | 314 => 88 | n => n, fun | 9 => 9 | 31 => 51 | 3 => 3 | 4 => 4 | 0 => 0 | 105 => 112 | 21 => 21 | 5 => 5 | 46 => 101 | 119 => 132 | 139 => 135 | 138 => 134 | 146 => 120 | 51 => 116 | n => n, fun | 1 => 0 | 3 => 4 | 4 => 5 | n => n⟩
theorem lays146 : Go.Proofs.Lays.n146 Tryd.prog lays146_ren := {
  mixed := by kernel_rfl
  f138 := Tryd.func62.trans (congrArg some (by kernel_rfl))
  f143 := Tryd.func63.trans (congrArg some (by kernel_rfl))
  f146 := Tryd.func28.trans (congrArg some (by kernel_rfl))
  f195 := Tryd.func79.trans (congrArg some (by kernel_rfl))
  f197 := Tryd.func80.trans (congrArg some (by kernel_rfl))
  f217 := Tryd.func68.trans (congrArg some (by kernel_rfl))
  f218 := Tryd.func81.trans (congrArg some (by kernel_rfl))
  f219 := Tryd.func54.trans (congrArg some (by kernel_rfl))
  f221 := Tryd.func48.trans (congrArg some (by kernel_rfl))
  f224 := Tryd.func70.trans (congrArg some (by kernel_rfl))
  f225 := Tryd.func69.trans (congrArg some (by kernel_rfl))
  f260 := Tryd.func94.trans (congrArg some (by kernel_rfl))
  f266 := Tryd.func87.trans (congrArg some (by kernel_rfl))
  f267 := Tryd.func71.trans (congrArg some (by kernel_rfl))
  f268 := Tryd.func61.trans (congrArg some (by kernel_rfl))
  f314 := Tryd.func88.trans (congrArg some (by kernel_rfl))
  t0 := Tryd.underlying0
  a0 := Tryd.isAgg0
  z0 := Tryd.sizeOf0
  v0 := Tryd.zeroValue0
  t3 := Tryd.underlying3
  a3 := Tryd.isAgg3
  z3 := Tryd.sizeOf3
  v3 := Tryd.zeroValue3
  t4 := Tryd.underlying4
  a4 := Tryd.isAgg4
  z4 := Tryd.sizeOf4
  v4 := Tryd.zeroValue4
  t5 := Tryd.underlying5
  a5 := Tryd.isAgg5
  z5 := Tryd.sizeOf5
  v5 := Tryd.zeroValue5
  t9 := Tryd.underlying9
  a9 := Tryd.isAgg9
  z9 := Tryd.sizeOf9
  v9 := Tryd.zeroValue9
  t21 := Tryd.underlying21
  a21 := Tryd.isAgg21
  z21 := Tryd.sizeOf21
  v21 := Tryd.zeroValue21
  t31 := Tryd.underlying51
  a31 := Tryd.isAgg51
  z31 := Tryd.sizeOf51
  v31 := Tryd.zeroValue51
  t46 := Tryd.underlying101
  a46 := Tryd.isAgg101
  z46 := Tryd.sizeOf101
  v46 := Tryd.zeroValue101
  t51 := Tryd.underlying116
  a51 := Tryd.isAgg116
  z51 := Tryd.sizeOf116
  v51 := Tryd.zeroValue116
  t105 := Tryd.underlying112
  a105 := Tryd.isAgg112
  z105 := Tryd.sizeOf112
  v105 := Tryd.zeroValue112
  t119 := Tryd.underlying132
  a119 := Tryd.isAgg132
  z119 := Tryd.sizeOf132
  t138 := Tryd.underlying134
  a138 := Tryd.isAgg134
  z138 := Tryd.sizeOf134
  v138 := Tryd.zeroValue134
  t139 := Tryd.underlying135
  a139 := Tryd.isAgg135
  z139 := Tryd.sizeOf135
  v139 := Tryd.zeroValue135
  t146 := Tryd.underlying120
  a146 := Tryd.isAgg120
  z146 := Tryd.sizeOf120
  v146 := Tryd.zeroValue120
  g1 := by kernel_rfl
  g3 := by kernel_rfl
  g4 := by kernel_rfl }
end Go.Proofs.YtolnbblikfpnbaaDoor

/-
  A region that draws its order: operations whose values are known, at most two whose values are not (a slice that is built, an append), and one at the end. Each is carried out in the frame that all of them leave.
-/
set_option linter.unusedSimpArgs false
set_option linter.unusedVariables false
namespace Go.Proofs.YtolnbblikfpnbaaDoor
open Go.RowKit

section
variable {P : Program} {ops : Array Oper} {Q : Exit → Act → World → Prop}

theorem put_inj {y : Act} {d : Nat} {v v' : Value} (hd : d < y.tmps.size) (h : y.put (some d) v = y.put (some d) v') : v = v' := by
  have := congrArg (fun a : Act => a.tmps[d]?) h
  simpa [Act.put, Array.getElem?_setIfInBounds, hd] using this
theorem upon_congr {o : Oper} {x y : Act} {d : Nat} {C : Value → World → Prop} {r : Result Next} (hd : o.dst = some d) (hy : d < y.tmps.size)
    (h : o.upon P y (fun a' w' => ∃ v, a' = y.put (some d) v ∧ C v w') (fun _ _ _ => False) r) : o.upon P x (fun a' w' => ∃ v, a' = x.put (some d) v ∧ C v w') Q r := by
  cases r with
  | ok n w' =>
    cases n with
    | value v =>
      simp only [Oper.upon, hd] at h ⊢
      obtain ⟨v', e, hC⟩ := h
      rw [← put_inj hy e] at hC
      exact ⟨v, rfl, hC⟩
    | skip =>
      simp only [Oper.upon, hd] at h ⊢
      obtain ⟨v', e, hC⟩ := h
      rw [← put_inj hy e] at hC
      exact ⟨_, rfl, hC⟩
    | «defer» df =>
      simp only [Oper.upon, hd] at h
      obtain ⟨v', e, hC⟩ := h
      have := congrArg Act.defers e
      simp [Act.put] at this
    | enter f args =>
      simp only [Oper.upon, hd] at h ⊢
      refine h.mono fun e w'' he => ?_
      cases e with
      | returned v =>
        obtain ⟨v', e, hC⟩ := he
        rw [← put_inj hy e] at hC
        exact ⟨_, rfl, hC⟩
      | panicked c => exact absurd he id
      | outgrown => obtain ⟨_, _, hf⟩ := he; exact absurd hf id
    | row rw_ args =>
      simp only [Oper.upon, hd] at h ⊢
      refine h.mono fun v w'' he => ?_
      obtain ⟨v', e, hC⟩ := he
      rw [← put_inj hy e] at hC
      exact ⟨_, rfl, hC⟩
    | _ => exact absurd h id
  | halt hh w' =>
    cases hh <;> exact absurd h id

def chainB (ops : Array Oper) (N e1 e2 u1 u2 : Nat) : Bool := (List.range N).all fun i => match ops[i]? with
  | none => false
  | some o => o.guard.isNone && plainOp o.op && o.dst.isSome && (o.op.operands.all fun x => match x with
      | .tmp t => decide (t ≠ u2) && (decide (t = u1) || (List.range N).all fun j => decide (dstOf ops j ≠ some t) || (waits ops i).contains j)
      | _ => true) && ((List.range N).all fun j => decide (j = i) || decide (dstOf ops j ≠ dstOf ops i)) &&
      (if i = e1 then decide (dstOf ops i = some u1) else if i = e2 then decide (dstOf ops i = some u2) else decide (dstOf ops i ≠ some u1) && decide (dstOf ops i ≠ some u2))
structure ChainAt (ops : Array Oper) (N e1 e2 u1 u2 i : Nat) (o : Oper) : Prop where
  guard : o.guard = none
  sel : ∀ cs b, o.op ≠ .select cs b
  dst : ∃ d, o.dst = some d
  looks2 : ∀ t, Operand.tmp t ∈ o.op.operands → t ≠ u2
  looks : ∀ t, Operand.tmp t ∈ o.op.operands → t = u1 ∨ ∀ j, j < N → dstOf ops j = some t → j ∈ waits ops i
  one : ∀ j, j < N → j ≠ i → dstOf ops j ≠ dstOf ops i
  at1 : i = e1 → dstOf ops i = some u1
  at2 : i ≠ e1 → i = e2 → dstOf ops i = some u2
  at0 : i ≠ e1 → i ≠ e2 → dstOf ops i ≠ some u1 ∧ dstOf ops i ≠ some u2
theorem chain_at {N e1 e2 u1 u2 i : Nat} {o : Oper} (h : chainB ops N e1 e2 u1 u2 = true) (hi : i < N) (ho : ops[i]? = some o) : ChainAt ops N e1 e2 u1 u2 i o := by
  have h1 := List.all_eq_true.1 h i (List.mem_range.2 hi)
  rw [ho] at h1
  simp only [Bool.and_eq_true] at h1
  obtain ⟨⟨⟨⟨⟨h1, h2⟩, h3⟩, h4⟩, h5⟩, h6⟩ := h1
  have hk : ∀ t, Operand.tmp t ∈ o.op.operands → t ≠ u2 ∧ (t = u1 ∨ ∀ j, j < N → dstOf ops j = some t → j ∈ waits ops i) := by
    intro t ht
    rw [Array.all_eq_true'] at h4
    have h7 := h4 (.tmp t) ht
    simp only [Bool.and_eq_true, Bool.or_eq_true, decide_eq_true_eq] at h7
    refine ⟨h7.1, ?_⟩
    rcases h7.2 with h8 | h8
    · exact Or.inl h8
    · refine Or.inr fun j hj hd => ?_
      have h9 := List.all_eq_true.1 h8 j (List.mem_range.2 hj)
      simp only [Bool.or_eq_true, decide_eq_true_eq] at h9
      rcases h9 with h9 | h9
      · exact absurd hd h9
      · simpa using h9
  refine ⟨by simpa using h1, ?_, Option.isSome_iff_exists.1 h3, fun t ht => (hk t ht).1, fun t ht => (hk t ht).2, ?_, ?_, ?_, ?_⟩
  · intro cs b e; rw [e] at h2; simp [plainOp] at h2
  · intro j hj hne
    have h6 := List.all_eq_true.1 h5 j (List.mem_range.2 hj)
    simp only [Bool.or_eq_true, decide_eq_true_eq] at h6
    rcases h6 with h6 | h6
    · exact absurd h6 hne
    · exact h6
  · intro e; rw [if_pos e] at h6; simpa using h6
  · intro e e'; rw [if_neg e, if_pos e'] at h6; simpa using h6
  · intro e e'; rw [if_neg e, if_neg e'] at h6; simpa using h6

/-- What is asked of the operations whose values are known. -/
def AllRd (Ob : Oper → Prop) (e1 e2 : Nat) : Nat → List Oper → Prop
  | _, [] => True
  | i, o :: l => (i ≠ e1 → i ≠ e2 → Ob o) ∧ AllRd Ob e1 e2 (i + 1) l
theorem AllRd.at_ {Ob : Oper → Prop} {e1 e2 : Nat} : ∀ {l : List Oper} {k : Nat}, AllRd Ob e1 e2 k l → ∀ (i : Nat) (o : Oper), l[i]? = some o → k + i ≠ e1 → k + i ≠ e2 → Ob o := by
  intro l
  induction l with
  | nil => intro _ _ i o h; simp at h
  | cons x l ih =>
    intro k h i o ho n1 n2
    cases i with
    | zero => simp at ho; subst ho; exact h.1 n1 n2
    | succ i => exact ih h.2 i o (by simpa using ho) (by omega) (by omega)
def RdOb (P : Program) (St : Bool → Bool → Value → Value → World → Prop) (AF : Act) (u1 : Nat) (o : Oper) : Prop :=
  ∃ d v, o.dst = some d ∧ AF.tmps[d]? = some v ∧ ∀ b1 b2 v1 v2 W, St b1 b2 v1 v2 W → ∀ (K : Act → World → Prop) (Q : Exit → Act → World → Prop), (∀ W', St b1 b2 v1 v2 W' → K ((AF.put (some u1) v1).put (some d) v) W') → o.wp P (AF.put (some u1) v1) W K Q

theorem put_at (a : Act) (d t : Nat) (v : Value) : (a.put (some d) v).tmps[t]? = if d = t then (if d < a.tmps.size then some v else none) else a.tmps[t]? := by
  simp only [Act.put, Array.getElem?_setIfInBounds]
theorem actGet_of {a : Act} {t : Nat} (h : t < a.tmps.size) : a.tmps[t]? = some (a.tmps.getD t undef) := by
  rw [Array.getD_eq_getD_getElem?, Array.getElem?_eq_getElem h]; rfl
theorem actGet_none {a : Act} {t : Nat} (h : ¬ t < a.tmps.size) : a.tmps[t]? = none := by
  rw [Array.getElem?_eq_none_iff]; omega

theorem act_ext {p q : Act} (h1 : p.tmps = q.tmps) (h2 : p.defers = q.defers) : p = q := by
  obtain ⟨a, b⟩ := p
  obtain ⟨c, d⟩ := q
  dsimp only at h1 h2
  rw [h1, h2]

/-- THE RULE. -/
theorem region_chain {id : Nat} {a : Act} {w : World} (N e1 e2 u1 u2 f : Nat) (vals : List (Nat × Value)) (St : Bool → Bool → Value → Value → World → Prop) (hm : P.follows .mixedOrders = true) (he : early ops = true) (hs0 : ops.size = N + 1)
    (hA : ((List.range N).all fun j => (ancs ops f N).contains j) = true) (hE : (decide (N < e2) || ((waits ops e2).contains e1) && decide (e1 < e2)) = true) (hH : chainB ops N e1 e2 u1 u2 = true) (hN1 : e1 ≠ N) (hN2 : e2 ≠ N) (hu : u1 ≠ u2) (hsu1 : e1 < N → u1 < a.tmps.size) (hsu2 : e2 < N → u2 < a.tmps.size)
    (hds : vals.map (fun p => some p.1) = ((List.range N).filter fun i => decide (i ≠ e1) && decide (i ≠ e2)).map (dstOf ops))
    (h0 : ∀ v1 v2, St false false v1 v2 w.drew) (reads : AllRd (RdOb P St (updAll a vals) u1) e1 e2 0 (ops.toList.take N))
    (eff1 : ∀ o, ops[e1]? = some o → ∀ v1 v2 W, St false false v1 v2 W → ∀ (K : Act → World → Prop) (Q : Exit → Act → World → Prop), (∀ v W', St true false v v2 W' → K (((updAll a vals).put (some u1) v1).put (some u1) v) W') → o.wp P ((updAll a vals).put (some u1) v1) W K Q)
    (eff2 : ∀ o, ops[e2]? = some o → ∀ v1 v2 W, St true false v1 v2 W → ∀ (K : Act → World → Prop) (Q : Exit → Act → World → Prop), (∀ v W', St true true v1 v W' → K (((updAll a vals).put (some u1) v1).put (some u2) v) W') → o.wp P ((updAll a vals).put (some u1) v1) W K Q)
    (tail : ∀ v1 v2 W, St (decide (e1 < N)) (decide (e2 < N)) v1 v2 W → wpOp P ops Q N (fun a2 w2 => Q .normal a2 w2) (((updAll a vals).put (some u1) v1).put (some u2) v2) W) :
    (Code.region id ops true).wp P Q a w := by
  have hA' : ∀ j, j < N → j ∈ ancs ops f N := fun j hj => by simpa using List.all_eq_true.1 hA j (List.mem_range.2 hj)
  have hsame : ∀ t, (∀ j, j < N → j ≠ e1 → j ≠ e2 → dstOf ops j ≠ some t) → (updAll a vals).tmps[t]? = a.tmps[t]? := fun t ht => updAll_same _ _ _ fun p hp e => by
    have h1 : some p.1 ∈ vals.map (fun p => some p.1) := List.mem_map.2 ⟨p, hp, rfl⟩
    rw [hds] at h1
    obtain ⟨j, hj, hjd⟩ := List.mem_map.1 h1
    obtain ⟨hj1, hj2⟩ := List.mem_filter.1 hj
    simp only [Bool.and_eq_true, decide_eq_true_eq] at hj2
    exact ht j (List.mem_range.1 hj1) hj2.1 hj2.2 (by rw [hjd, e])
  have hdf : (updAll a vals).defers = a.defers := updAll_defers _ _
  have hsz : (updAll a vals).tmps.size = a.tmps.size := updAll_size _ _
  have hval : ∀ i o, i < N → ops[i]? = some o → i ≠ e1 → i ≠ e2 → RdOb P St (updAll a vals) u1 o := fun i o hi ho n1 n2 => reads.at_ i o (by
    rw [List.getElem?_take_of_lt hi, Array.getElem?_toList]; exact ho) (by omega) (by omega)
  generalize updAll a vals = AF at *
  refine region_inv hm he (fun l x W => l.size = ops.size ∧ Shut ops l ∧ ((l.getD N false = true ∧ Q .normal x W) ∨ (l.getD N true = false ∧ x.defers = a.defers ∧ x.tmps.size = a.tmps.size ∧
    (∀ j, j < N → j ≠ e1 → j ≠ e2 → l.getD j false = true → ∀ t, dstOf ops j = some t → x.tmps[t]? = AF.tmps[t]?) ∧
    (∀ t, (∀ j, j < N → dstOf ops j = some t → l.getD j false = false) → x.tmps[t]? = a.tmps[t]?) ∧ St (l.getD e1 false) (l.getD e2 false) (x.tmps.getD u1 undef) (x.tmps.getD u2 undef) W))) ?_ (fun l a w h => h.1) ?_ ?_
  · refine ⟨by simp, ?_, Or.inr ⟨?_, rfl, rfl, fun j hj _ _ h => ?_, fun _ _ => rfl, ?_⟩⟩
    · intro i hi
      rw [Array.getD_eq_getD_getElem?] at hi
      by_cases h : i < ops.size <;> simp [h] at hi
    · rw [Array.getD_eq_getD_getElem?]; simp [hs0]
    · rw [Array.getD_eq_getD_getElem?] at h
      simp [hs0, show j < N + 1 by omega] at h
    · have e : ∀ k, (Array.replicate ops.size false).getD k false = false := by
        intro k
        rw [Array.getD_eq_getD_getElem?]
        by_cases h : k < ops.size <;> simp [h]
      rw [e, e]
      exact h0 _ _
  · rintro i o ho l x W ⟨hs, hS, hJ⟩ hl hd
    have hio : i < ops.size := (Array.getElem?_eq_some_iff.1 ho).1
    have hil : i < l.size := by rw [hs]; exact hio
    have hw := waits_ok ho hd
    have hS2 := hS.set hil hw
    have hs2 : (l.setIfInBounds i true).size = ops.size := by simpa using hs
    rcases hJ with ⟨j1, _⟩ | ⟨jN, x1, x2, x3, x4, x5⟩
    · rcases Nat.lt_or_ge i N with hi | hi
      · exact absurd (hS.anc f N j1 i (hA' i hi)) (by rw [getD_tf hl]; decide)
      · obtain rfl : i = N := by omega
        exact absurd j1 (by rw [getD_tf hl]; decide)
    rcases Nat.lt_or_ge i N with hi | hi
    · have hC := chain_at hH hi ho
      obtain ⟨d, hd1⟩ := hC.dst
      have hdi : dstOf ops i = some d := by unfold dstOf; rw [ho]; exact hd1
      -- the operands look alike
      have hev : ∀ y ∈ o.op.operands, x.eval y = (AF.put (some u1) (x.tmps.getD u1 undef)).eval y := by
        intro y hy
        refine eval_same fun t ht => ?_
        subst ht
        have n2 := hC.looks2 t hy
        rw [put_at]
        by_cases c1 : u1 = t
        · rw [if_pos c1]
          subst c1
          by_cases hlt : u1 < x.tmps.size
          · rw [if_pos (by rw [hsz, ← x2]; exact hlt), actGet_of hlt]
          · rw [if_neg (by rw [hsz, ← x2]; exact hlt), actGet_none hlt]
        · rw [if_neg c1]
          rcases hC.looks t hy with c2 | c2
          · exact absurd c2.symm c1
          by_cases hc : ∃ j, j < N ∧ dstOf ops j = some t
          · obtain ⟨j, hj, hjt⟩ := hc
            have hoj : ops[j]? = some ops[j] := Array.getElem?_eq_getElem (by omega)
            have hCj := chain_at hH hj hoj
            have m1 : j ≠ e1 := fun e => by have := hCj.at1 e; rw [hjt] at this; exact c1 (Option.some.inj this).symm
            have m2 : j ≠ e2 := fun e => by have := hCj.at2 m1 e; rw [hjt] at this; exact n2 (Option.some.inj this)
            exact x3 j hj m1 m2 (hw j (c2 j hj hjt)) t hjt
          · have hno : ∀ j, j < N → dstOf ops j ≠ some t := fun j hj e => hc ⟨j, hj, e⟩
            rw [x4 t (fun j hj e => absurd e (hno j hj)), hsame t (fun j hj _ _ => hno j hj)]
      have hex := execOp_congr o hC.sel hev
      by_cases hdlt : d < a.tmps.size
      · have hlt : d < x.tmps.size := by rw [x2]; exact hdlt
        have hAFlt : d < (AF.put (some u1) (x.tmps.getD u1 undef)).tmps.size := by simpa [Act.put, hsz] using hdlt
        -- the frame and the flags behind it
        have hput : ∀ (C : Value → World → Prop), (∀ (K : Act → World → Prop) (Q : Exit → Act → World → Prop), (∀ v W', C v W' → K ((AF.put (some u1) (x.tmps.getD u1 undef)).put (some d) v) W') → o.wp P (AF.put (some u1) (x.tmps.getD u1 undef)) W K Q) → wpOp P ops Q i (fun a' w' => ∃ v, a' = x.put (some d) v ∧ C v w') x W := by
          intro C hC2
          unfold wpOp
          rw [ho]
          simp only [Region.wanted, hC.guard, if_true]
          refine Or.inl ?_
          have h1 := hC2 (fun a' w' => ∃ v, a' = (AF.put (some u1) (x.tmps.getD u1 undef)).put (some d) v ∧ C v w') (fun _ _ _ => False) (fun v W' h => ⟨v, rfl, h⟩)
          unfold Oper.wp at h1 ⊢
          rw [hex]
          exact upon_congr hd1 hAFlt h1
        have hfr : ∀ v W', (i ≠ e1 → i ≠ e2 → AF.tmps[d]? = some v) → St ((l.setIfInBounds i true).getD e1 false) ((l.setIfInBounds i true).getD e2 false) ((x.put (some d) v).tmps.getD u1 undef) ((x.put (some d) v).tmps.getD u2 undef) W' →
            ((l.setIfInBounds i true).size = ops.size ∧ Shut ops (l.setIfInBounds i true) ∧ (((l.setIfInBounds i true).getD N false = true ∧ Q .normal (x.put (some d) v) W') ∨ ((l.setIfInBounds i true).getD N true = false ∧ (x.put (some d) v).defers = a.defers ∧ (x.put (some d) v).tmps.size = a.tmps.size ∧
    (∀ j, j < N → j ≠ e1 → j ≠ e2 → (l.setIfInBounds i true).getD j false = true → ∀ t, dstOf ops j = some t → (x.put (some d) v).tmps[t]? = AF.tmps[t]?) ∧
    (∀ t, (∀ j, j < N → dstOf ops j = some t → (l.setIfInBounds i true).getD j false = false) → (x.put (some d) v).tmps[t]? = a.tmps[t]?) ∧ St ((l.setIfInBounds i true).getD e1 false) ((l.setIfInBounds i true).getD e2 false) ((x.put (some d) v).tmps.getD u1 undef) ((x.put (some d) v).tmps.getD u2 undef) W'))) := by
          intro v W' hv hSt
          refine ⟨hs2, hS2, Or.inr ⟨?_, x1, by simpa [Act.put] using x2, ?_, ?_, hSt⟩⟩
          · rw [getD_set1 hil, if_neg (by omega)]; exact jN
          · intro j hj m1 m2 hjl t hjt
            rw [put_at]
            by_cases e : d = t
            · subst e
              rw [if_pos rfl, if_pos hlt]
              have hji : j = i := Classical.byContradiction fun c => hC.one j hj c (by rw [hjt, hdi])
              subst hji
              exact (hv m1 m2).symm
            · rw [if_neg e]
              have hji : j ≠ i := fun c => by subst c; rw [hdi] at hjt; exact e (Option.some.inj hjt)
              rw [getD_set1 hil, if_neg (fun c => hji c.symm)] at hjl
              exact x3 j hj m1 m2 hjl t hjt
          · intro t ht
            rw [put_at]
            have hdt : d ≠ t := fun c => by
              subst c
              have := ht i hi hdi
              rw [getD_set1 hil, if_pos rfl] at this
              cases this
            rw [if_neg hdt]
            refine x4 t fun j hj hjt => ?_
            have := ht j hj hjt
            rw [getD_set1 hil] at this
            split at this
            · cases this
            · exact this
        have hgd : ∀ (v : Value) (t : Nat), (x.put (some d) v).tmps.getD t undef = if d = t then v else x.tmps.getD t undef := by
          intro v t
          rw [Array.getD_eq_getD_getElem?, put_at]
          by_cases e : d = t
          · rw [if_pos e, if_pos e, if_pos hlt]; rfl
          · rw [if_neg e, if_neg e, Array.getD_eq_getD_getElem?]
        by_cases c1 : i = e1
        · subst c1
          have hd2 := hC.at1 rfl
          rw [hdi] at hd2
          obtain rfl : d = u1 := Option.some.inj hd2
          have hb1 : l.getD i false = false := getD_tf hl
          have hb2 : l.getD e2 false = false := by
            cases hb : l.getD e2 false with
            | false => rfl
            | true =>
              exfalso
              simp only [Bool.or_eq_true, Bool.and_eq_true, decide_eq_true_eq] at hE
              rcases hE with hE | hE
              · rw [Array.getD_eq_getD_getElem?, Array.getElem?_eq_none_iff.2 (by omega)] at hb
                cases hb
              · have := hS e2 hb i (by simpa using hE.1)
                rw [hb1] at this; cases this
          rw [hb1, hb2] at x5
          refine wpOp_mono ?_ (hput (fun v W' => St true false v (x.tmps.getD u2 undef) W') (fun K Q hK => eff1 o ho _ _ W x5 K Q hK))
          rintro a' w' ⟨v, rfl, hv⟩
          refine hfr v w' (fun c => absurd rfl c) ?_
          rw [getD_set1 hil, if_pos rfl, getD_set1 hil, hgd, hgd, if_pos rfl, if_neg hu]
          have : ¬ i = e2 := fun e => by
            simp only [Bool.or_eq_true, Bool.and_eq_true, decide_eq_true_eq] at hE
            omega
          rw [if_neg this, hb2]
          exact hv
        · by_cases c2 : i = e2
          · subst c2
            have hd2 := hC.at2 c1 rfl
            rw [hdi] at hd2
            obtain rfl : d = u2 := Option.some.inj hd2
            have hb2 : l.getD i false = false := getD_tf hl
            have hb1 : l.getD e1 false = true := by
              simp only [Bool.or_eq_true, Bool.and_eq_true, decide_eq_true_eq] at hE
              rcases hE with hE | hE
              · omega
              · exact hw e1 (by simpa using hE.1)
            rw [hb1, hb2] at x5
            refine wpOp_mono ?_ (hput (fun v W' => St true true (x.tmps.getD u1 undef) v W') (fun K Q hK => eff2 o ho _ _ W x5 K Q hK))
            rintro a' w' ⟨v, rfl, hv⟩
            refine hfr v w' (fun _ c => absurd rfl c) ?_
            rw [getD_set1 hil, getD_set1 hil, if_pos rfl, hgd, hgd, if_pos rfl, if_neg (Ne.symm hu), if_neg c1, hb1]
            exact hv
          · obtain ⟨d', v, g1, g2, g3⟩ := hval i o hi ho c1 c2
            rw [hd1] at g1
            obtain rfl : d = d' := Option.some.inj g1
            obtain ⟨k1, k2⟩ := hC.at0 c1 c2
            rw [hdi] at k1 k2
            have k1' : d ≠ u1 := fun e => k1 (by rw [e])
            have k2' : d ≠ u2 := fun e => k2 (by rw [e])
            refine wpOp_mono ?_ (hput (fun v' W' => v' = v ∧ St (l.getD e1 false) (l.getD e2 false) (x.tmps.getD u1 undef) (x.tmps.getD u2 undef) W') (fun K Q hK => g3 _ _ _ _ W x5 K Q (fun W' h => hK v W' ⟨rfl, h⟩)))
            rintro a' w' ⟨v', rfl, rfl, hv⟩
            refine hfr v' w' (fun _ _ => g2) ?_
            rw [getD_set1 hil, getD_set1 hil, hgd, hgd, if_neg k1', if_neg k2', if_neg c1, if_neg c2]
            exact hv
      · -- no such slot: cannot be
        exfalso
        by_cases c1 : i = e1
        · have hd2 := hC.at1 c1
          rw [hdi] at hd2
          have := hsu1 (by omega)
          rw [← Option.some.inj hd2] at this
          exact hdlt this
        · by_cases c2 : i = e2
          · have hd2 := hC.at2 c1 c2
            rw [hdi] at hd2
            have := hsu2 (by omega)
            rw [← Option.some.inj hd2] at this
            exact hdlt this
          · obtain ⟨d', v, g1, g2, g3⟩ := hval i o hi ho c1 c2
            rw [hd1] at g1
            obtain rfl : d = d' := Option.some.inj g1
            have := (Array.getElem?_eq_some_iff.1 g2).1
            rw [hsz] at this
            exact hdlt this
    · obtain rfl : i = N := by omega
      have hall : ∀ j, j < i → l.getD j false = true := by
        intro j hj
        have := hS2.anc f i (by rw [getD_set1 hil, if_pos rfl]) j (hA' j hj)
        rwa [getD_set1 hil, if_neg (by omega)] at this
      have hfl : ∀ e, e ≠ i → l.getD e false = decide (e < i) := by
        intro e hne
        rcases Nat.lt_or_ge e i with h | h
        · rw [hall e h]; simp [h]
        · rw [Array.getD_eq_getD_getElem?, Array.getElem?_eq_none_iff.2 (by omega)]
          simp; omega
      rw [hfl e1 hN1, hfl e2 hN2] at x5
      have hx : x = ((AF.put (some u1) (x.tmps.getD u1 undef)).put (some u2) (x.tmps.getD u2 undef)) := by
        have e1' : x.tmps = ((AF.put (some u1) (x.tmps.getD u1 undef)).put (some u2) (x.tmps.getD u2 undef)).tmps := by
          refine Array.ext_getElem? fun t => ?_
          have hs3 : (AF.put (some u1) (x.tmps.getD u1 undef)).tmps.size = x.tmps.size := by rw [x2, ← hsz]; simp [Act.put]
          rw [put_at, hs3]
          by_cases c2 : u2 = t
          · subst c2
            rw [if_pos rfl]
            by_cases hlt : u2 < x.tmps.size
            · rw [if_pos hlt, actGet_of hlt]
            · rw [if_neg hlt, actGet_none hlt]
          · rw [if_neg c2, put_at, hsz, ← x2]
            by_cases c1 : u1 = t
            · subst c1
              rw [if_pos rfl]
              by_cases hlt : u1 < x.tmps.size
              · rw [if_pos hlt, actGet_of hlt]
              · rw [if_neg hlt, actGet_none hlt]
            · rw [if_neg c1]
              by_cases hc : ∃ j, j < i ∧ dstOf ops j = some t
              · obtain ⟨j, hj, hjt⟩ := hc
                have hoj : ops[j]? = some ops[j] := Array.getElem?_eq_getElem (by omega)
                have hCj := chain_at hH hj hoj
                have m1 : j ≠ e1 := fun e => by have := hCj.at1 e; rw [hjt] at this; exact c1 (Option.some.inj this).symm
                have m2 : j ≠ e2 := fun e => by have := hCj.at2 m1 e; rw [hjt] at this; exact c2 (Option.some.inj this).symm
                exact x3 j hj m1 m2 (hall j hj) t hjt
              · have hno : ∀ j, j < i → dstOf ops j ≠ some t := fun j hj e => hc ⟨j, hj, e⟩
                rw [x4 t (fun j hj e => absurd e (hno j hj)), hsame t (fun j hj _ _ => hno j hj)]
        have e2' : x.defers = ((AF.put (some u1) (x.tmps.getD u1 undef)).put (some u2) (x.tmps.getD u2 undef)).defers := by rw [x1, ← hdf]; rfl
        exact act_ext e1' e2'
      have ht := tail _ _ W x5
      rw [← hx] at ht
      refine wpOp_mono ?_ ht
      intro a' w' h
      exact ⟨hs2, hS2, Or.inl ⟨by rw [getD_set1 hil, if_pos rfl], h⟩⟩
  · rintro l x W ⟨hs, hS, hJ⟩ hall
    rcases hJ with ⟨_, j⟩ | ⟨j, _⟩
    · exact j
    · rw [hall N (by omega)] at j; cases j
end

end Go.Proofs.YtolnbblikfpnbaaDoor

/-
  CurveText of package quantity.
-/
set_option linter.unusedSimpArgs false
set_option linter.unusedVariables false
namespace Go.Proofs.YtolnbblikfpnbaaDoor
open Sx Go.RowKit
def tcS (xs ys : List Int) : ByteArray × Int := if checkC xs ys = 0 then (⟨(textC xs ys).toArray⟩, 0) else (⟨#[]⟩, checkC xs ys)
theorem cv_open {b : Nat} {x y : Value} {W : World} {T : TypeId} (h : W.heap[b]? = some (.cells #[x, y] T)) : W.cell? ⟨b, 0, none⟩ = some x ∧ W.cell? ⟨b, 1, none⟩ = some y ∧ b < W.heap.size :=
  ⟨blk_cell h rfl, blk_cell h rfl, blk_lt h⟩
theorem tcS_ok {xs ys : List Int} (h : checkC xs ys = 0) : tcS xs ys = (⟨(textC xs ys).toArray⟩, 0) := by unfold tcS; rw [if_pos h]
theorem tcS_no {xs ys : List Int} (h : checkC xs ys ≠ 0) : tcS xs ys = (⟨#[]⟩, checkC xs ys) := by unfold tcS; rw [if_neg h]
theorem join_any (bk o c : Nat) (xs : List ByteArray) (sep : ByteArray) (w : World) (hcells : ∀ (j : Nat) x, xs[j]? = some x → w.cell? ⟨bk, o + j, none⟩ = some (.string x)) (hbk : bk < w.heap.size) (hN : xs.length ≤ 140737488355328) (hcap : xs.length ≤ c) (hlen : (Lib.join (xs.map (·.data.toList)) sep.data.toList).length ≤ 140737488355328) :
    Calls Tryd.prog 26 #[.slice (some ⟨bk, o, none⟩) xs.length c, .string sep] w fun e w' => e = .returned (.string ⟨(Lib.join (xs.map (·.data.toList)) sep.data.toList).toArray⟩) ∧ Below w.heap.size w w' :=
  Any.strings_Join lays156 Builder_Extra_156 bk o c xs sep w hcells hbk hN hcap hlen
/-- A row of texts that the call made. -/
def StOwn (W : World) (B : Nat) (v : Value) (ts : List ByteArray) : Prop := W.ownsRow B 9 1 v ts.length (ts.map Value.string)
theorem StOwn.nil {W : World} {B : Nat} : StOwn W B (.slice none 0 0) [] := ⟨rfl, Or.inl ⟨rfl, rfl⟩⟩
theorem StOwn.step {W w2 : World} {B : Nat} {v : Value} {ts : List ByteArray} (h : StOwn W B v ts) (hb : Below W.heap.size W w2) : StOwn w2 B v ts := own_step h hb
theorem StOwn.more {W : World} {B : Nat} {v : Value} {ts : List ByteArray} {t : ByteArray} (h : W.ownsRow B 9 1 v (ts.length + 1) (ts.map Value.string ++ [.string t])) : StOwn W B v (ts ++ [t]) := by
  unfold StOwn
  rw [List.map_append, List.length_append]
  exact h
theorem StOwn.cells {W : World} {B : Nat} {v : Value} {ts : List ByteArray} (h : StOwn W B v ts) (hn : ts ≠ []) : ∃ g c, v = .slice (some ⟨g, 0, none⟩) ts.length c ∧ ts.length ≤ c ∧ g < W.heap.size ∧ ∀ (j : Nat) x, ts[j]? = some x → W.cell? ⟨g, 0 + j, none⟩ = some (.string x) := by
  obtain ⟨h1, h2⟩ := h
  rcases h2 with ⟨-, h2⟩ | ⟨g, cap, cur, rfl, q2, q3, q4, q5, q6, q7⟩
  · exact absurd (List.length_eq_zero_iff.1 h2) hn
  · refine ⟨g, cap, rfl, q4, blk_lt q3, fun j x hj => ?_⟩
    have hjl := (List.getElem?_eq_some_iff.1 hj).1
    have : (cur.toList.take (ts.length * 1))[j]? = (ts.map Value.string)[j]? := by rw [q7]
    rw [List.getElem?_take_of_lt (by omega), List.getElem?_map, hj] at this
    exact blk_cell q3 (by simpa using this)
theorem infoS : (Tryd.prog.info? 9).map (fun i => (i.zero, i.size, i.bytes)) = some (some (.string ⟨#[]⟩), 1, 16) := by kernel_rfl
theorem one_oneS (x : ByteArray) : ∀ u ∈ [Value.string x], u.oneCell' = true := by
  intro u hu
  simp at hu
  rw [hu]; rfl
theorem one_cellS {W : World} {g : Nat} {x : ByteArray} (h : W.cell? ⟨g, 0, none⟩ = some (.string x)) : ∀ j u, [Value.string x][j]? = some u → W.cell? ((⟨g, 0, none⟩ : Addr).add j) = some u := by
  intro j u hj
  match j, hj with
  | 0, hj => simp at hj; subst hj; simpa [Addr.add] using h
/-- The state of the region that makes a text and appends it. -/
def StA (B : Nat) (w1 : World) (lv : Value) (ts : List ByteArray) (t : ByteArray) (b1 b2 : Bool) (v1 v2 : Value) (W : World) : Prop :=
  Below B w1 W ∧ B ≤ W.heap.size ∧ (b2 = false → StOwn W B lv ts) ∧ (b1 = true → b2 = false → ∃ g, v1 = .slice (some ⟨g, 0, none⟩) 1 1 ∧ W.cell? ⟨g, 0, none⟩ = some (.string t)) ∧ (b2 = true → StOwn W B v2 (ts ++ [t]))
theorem StA.step {B : Nat} {w1 : World} {lv : Value} {ts : List ByteArray} {t : ByteArray} {b1 b2 : Bool} {v1 v2 : Value} {W w2 : World} (h : StA B w1 lv ts t b1 b2 v1 v2 W) (hb : Below W.heap.size W w2) : StA B w1 lv ts t b1 b2 v1 v2 w2 := by
  obtain ⟨h1, h2, h3, h4, h5⟩ := h
  refine ⟨h1.trans (hb.mono h2), Nat.le_trans h2 hb.size, fun e => (h3 e).step hb, fun e e' => ?_, fun e => (h5 e).step hb⟩
  obtain ⟨g, q1, q2⟩ := h4 e e'
  exact ⟨g, q1, cell_step q2 hb⟩
theorem StA.built {B : Nat} {w1 : World} {lv : Value} {ts : List ByteArray} {t : ByteArray} {v1 v2 : Value} {W : World} {T : TypeId} (h : StA B w1 lv ts t false false v1 v2 W) : StA B w1 lv ts t true false (.slice (some ⟨W.heap.size, 0, none⟩) 1 1) v2 (W.alloc (.cells #[.string t] T)) := by
  obtain ⟨h1, h2, h3, h4, h5⟩ := h.step (bAl'' (o := .cells #[.string t] T))
  exact ⟨h1, h2, h3, fun _ _ => ⟨_, rfl, blk_cell (blk_new W _) rfl⟩, h5⟩
theorem StA.added {B : Nat} {w1 : World} {lv : Value} {ts : List ByteArray} {t : ByteArray} {v1 v2 v' : Value} {W w' : World} (h : StA B w1 lv ts t true false v1 v2 W) (ho : w'.ownsRow B 9 1 v' (ts.length + 1) (ts.map Value.string ++ [.string t])) (hg : W.grownBy w' lv.ownBlock) : StA B w1 lv ts t true true v1 v' w' := by
  obtain ⟨h1, h2, h3, h4, h5⟩ := h
  have hb := h1.grown hg h2 (own_ge (h3 rfl))
  exact ⟨hb, Nat.le_trans h2 hg.size, (fun e => by cases e), (fun _ e => by cases e), fun _ => StOwn.more ho⟩
/-- The texts of the first points. -/
def ptS (xs ys : List Int) (k : Nat) : List ByteArray := (List.range k).map fun j => ⟨(pt (xs.getD j 0, ys.getD j 0)).toArray⟩
theorem ptS_more (xs ys : List Int) (k : Nat) : ptS xs ys (k + 1) = ptS xs ys k ++ [⟨(pt (xs.getD k 0, ys.getD k 0)).toArray⟩] := by unfold ptS; rw [List.range_succ]; simp
theorem ptS_len (xs ys : List Int) (k : Nat) : (ptS xs ys k).length = k := by simp [ptS]
theorem ptS_all {xs ys : List Int} (h : xs.length = ys.length) : (ptS xs ys xs.length).map (·.data.toList) = (xs.zip ys).map pt := by
  unfold ptS
  rw [List.map_map]
  apply List.ext_getElem (by simp; omega)
  intro j h1 h2
  simp at h1 h2
  have h3 : j < ys.length := by omega
  simp [List.getD_eq_getElem?_getD, List.getElem?_eq_getElem h1, List.getElem?_eq_getElem h3]
theorem tail_len {m : Nat} : ∀ {l : List (List UInt8)}, (∀ z ∈ l, z.length ≤ m) → (Lib.joinTail [32] l).length ≤ l.length * (m + 1)
  | [], _ => by simp [Lib.joinTail]
  | x :: l, h => by
    rw [tail_cons]
    have h1 := h x (List.mem_cons_self ..)
    have h2 := tail_len (m := m) (fun z hz => h z (List.mem_cons_of_mem _ hz))
    simp only [List.length_cons, List.length_append]
    rw [Nat.succ_mul]
    omega
theorem join_len {m : Nat} {l : List (List UInt8)} (h : ∀ z ∈ l, z.length ≤ m) : (Lib.join l [32]).length ≤ l.length * (m + 1) := by
  cases l with
  | nil => simp [Lib.join]
  | cons x l =>
    rw [Lib.join_cons, List.length_append, List.length_cons, Nat.succ_mul]
    have h1 := h x (List.mem_cons_self ..)
    have h2 := tail_len (m := m) (fun z hz => h z (List.mem_cons_of_mem _ hz))
    omega
theorem textC_len {xs ys : List Int} (h1 : xs.length ≤ 64) (h : ∀ j, isQ (xs.getD j 0) = true ∧ isQ (ys.getD j 0) = true) : (textC xs ys).length ≤ 140737488355328 := by
  have h2 : (textC xs ys).length ≤ ((xs.zip ys).map pt).length * (29 + 1) := join_len fun z hz => by
    obtain ⟨⟨x, y⟩, hp, rfl⟩ := List.mem_map.1 hz
    obtain ⟨j, hj, e⟩ := List.getElem_of_mem hp
    simp only [List.length_zip] at hj
    have hq := h j
    rw [List.getElem_zip] at e
    obtain ⟨rfl, rfl⟩ := Prod.mk.inj e
    rw [List.getD_eq_getElem?_getD, List.getElem?_eq_getElem (by omega), List.getD_eq_getElem?_getD, List.getElem?_eq_getElem (by omega)] at hq
    simp only [Option.getD_some] at hq
    rw [isQ_iff, isQ_iff] at hq
    have l1 := okP_len hq.1.1 hq.1.2
    have l2 := okP_len hq.2.1 hq.2.2
    unfold pt
    simp only [List.length_append, List.length_cons]
    omega
  simp only [List.length_map, List.length_zip] at h2
  omega
set_option maxHeartbeats 2000000 in
set_option maxRecDepth 20000 in
theorem CurveText_any (a b : Option Addr) (ca cb : Nat) (xs ys : List Int) (w : World) (hG : Glob0 w) (hx : xs.length ≤ 1000) (hy : ys.length ≤ 1000) (hA : IntAt a xs w) (hB : IntAt b ys w) :
    Calls Tryd.prog 10 #[.agg #[.slice a xs.length ca, .slice b ys.length cb]] w fun e w' => e = .returned (.tuple #[.string (tcS xs ys).1, .int .i64 (tcS xs ys).2]) ∧ Below w.heap.size w w' := by
  have CK := Lib.hid (fun W h1 h2 => CheckCurve_any a b ca cb xs ys W (by omega) (by omega) h1 h2)
  have HG := Lib.hid hG
  have HA := Lib.hid hA
  have HB := Lib.hid hB
  by_cases hk : checkC xs ys = 0
  · rw [tcS_ok hk]
    rw [hk] at CK
    dsimp only
    clear hG hA hB
    have B0 := Lib.hid (blk_new w (.cells #[.slice a xs.length ca, .slice b ys.length cb] 33))
    go_enter Tryd.func10, Tryd.ntmps10
    go_wp2_with (go_at_call 25; refine (CK.out _ (HA.out.step (by repeat' (first | exact Below.refl _ _ | assumption | apply bDrewN | apply bDrew | apply bAlloc | (refine bSet ?_ ?_ _) | (refine bStep ?_ (by assumption)) | omega | (simp <;> omega)))) (HB.out.step (by repeat' (first | exact Below.refl _ _ | assumption | apply bDrewN | apply bDrew | apply bAlloc | (refine bSet ?_ ?_ _) | (refine bStep ?_ (by assumption)) | omega | (simp <;> omega))))).mono ?_; rintro e w1 ⟨rfl, hb1⟩; replace B0 := Lib.hid (blk_step B0.out hb1); obtain ⟨c0, c1, k0⟩ := cv_open B0.out)
    obtain ⟨n1, n2, n3, n4⟩ : xs.length = ys.length ∧ 2 ≤ xs.length ∧ xs.length ≤ 64 ∧ (∀ j, isQ (xs.getD j 0) = true ∧ isQ (ys.getD j 0) = true) := by
      obtain ⟨q1, q2, ⟨q3, q4, q5, q6⟩, -⟩ := okC_iff.1 hk
      exact ⟨q3, q4, q1, fun j => ⟨(isQ_iff _).2 (allQ_getD q5 j), (isQ_iff _).2 (allQ_getD q6 j)⟩⟩
    obtain ⟨ba, oa, rfl, hba, -⟩ := id (HA.out (fun e => by rw [e] at n2; simp at n2))
    obtain ⟨bb, ob, rfl, hbb, -⟩ := id (HB.out (fun e => by rw [e] at n1; simp only [List.length_nil] at n1; omega))
    have fx : Hid (∀ k, k < xs.length → w1.cell? ⟨ba, oa + k, none⟩ = some (.int .i64 (xs.getD k 0))) := fun k hk => by
      obtain ⟨b', o', ee, q⟩ := HA.out.at_ hk
      obtain ⟨rfl, rfl⟩ : b' = ba ∧ o' = oa := by injection ee with ee; injection ee with e1 e2 e3; exact ⟨e1.symm, e2.symm⟩
      rw [List.getD_eq_getElem?_getD, List.getElem?_eq_getElem hk]
      exact (hb1.cell (p := ⟨b', o' + k, none⟩) (Nat.lt_of_lt_of_le hba (by simp))).trans (by rw [World.cell?_alloc_old _ _ _ (Nat.ne_of_lt hba)]; exact q)
    have fy : Hid (∀ k, k < ys.length → w1.cell? ⟨bb, ob + k, none⟩ = some (.int .i64 (ys.getD k 0))) := fun k hk => by
      obtain ⟨b', o', ee, q⟩ := HB.out.at_ hk
      obtain ⟨rfl, rfl⟩ : b' = bb ∧ o' = ob := by injection ee with ee; injection ee with e1 e2 e3; exact ⟨e1.symm, e2.symm⟩
      rw [List.getD_eq_getElem?_getD, List.getElem?_eq_getElem hk]
      exact (hb1.cell (p := ⟨b', o' + k, none⟩) (Nat.lt_of_lt_of_le hbb (by simp))).trans (by rw [World.cell?_alloc_old _ _ _ (Nat.ne_of_lt hbb)]; exact q)
    have K1 := Lib.hid (bStep (bAl'' (W := w)) hb1)
    have hz1 : w.heap.size + 1 ≤ w1.heap.size := by have := hb1.size; simpa using this
    have hbx : Hid (bb < w.heap.size) := hbb
    have hax : Hid (ba < w.heap.size) := hba
    have HK := Lib.hid hk
    have HN := Lib.hid n1
    have HQ := Lib.hid n4
    rw [← n1] at c1 fy
    clear hb1 HA HB CK B0 hba hbb hk n1 n4 k0
    obtain ⟨i0, hi, hz0, hz1', hz2⟩ := info_parts infoS
    go_loopw [5, 6, 7, 16] (fun l _ _ ix wr => ∃ k : Nat, k ≤ xs.length ∧ ix = .int .i64 k ∧ Hid (StOwn wr (w.heap.size + 1) l (ptS xs ys k)) ∧ Below (w.heap.size + 1) w1 wr ∧ w.heap.size + 1 ≤ wr.heap.size) (fun _ _ _ ix _ => xs.length - (intOf ix).toNat)
    case atStart => exact ⟨0, by omega, rfl, StOwn.nil, Below.refl _ _, hz1⟩
    case round =>
      obtain ⟨k, hkl, rfl, HO, kB, hz⟩ := hrel
      by_cases hlt : k < xs.length
      · have hlt2 : (k : Int) < xs.length := by omega
        have gx := (kB.cell (p := ⟨ba, oa + k, none⟩) (by have := hax.out; show ba < _; omega)).trans (fx.out k hlt)
        have HY := Lib.hid (fy.out k hlt)
        obtain ⟨qx, qy⟩ := HQ.out k
        rw [isQ_iff] at qx qy
        have lx := okP_len qx.1 qx.2
        have ly := okP_len qy.1 qy.2
        have C1 := Lib.hid (fun W hG => write_any (xs.getD k 0) (by omega) (by omega) W hG)
        have C2 := Lib.hid (fun W hG => write_any (ys.getD k 0) (by omega) (by omega) W hG)
        have et : Hid (((ByteArray.mk (Lib.itoa (xs.getD k 0)).toArray) ++ ⟨#[58]⟩) ++ (ByteArray.mk (Lib.itoa (ys.getD k 0)).toArray) = ⟨(pt (xs.getD k 0, ys.getD k 0)).toArray⟩) := ba_inj (by unfold pt; simp)
        have nx := Lib.hid (ptS_more xs ys k)
        have zl : (ptS xs ys k).length = k := ptS_len xs ys k
        have sx : (ByteArray.mk (Lib.itoa (xs.getD k 0)).toArray).size ≤ 14 := by rw [Lib.size_eq]; exact lx
        have sy : (ByteArray.mk (Lib.itoa (ys.getD k 0)).toArray).size ≤ 14 := by rw [Lib.size_eq]; exact ly
        generalize (⟨(pt (xs.getD k 0, ys.getD k 0)).toArray⟩ : ByteArray) = t at *
        generalize (ByteArray.mk (Lib.itoa (xs.getD k 0)).toArray) = tx at *
        generalize (ByteArray.mk (Lib.itoa (ys.getD k 0)).toArray) = ty at *
        generalize xs.getD k 0 = x at *
        generalize ys.getD k 0 = y at *
        have q1 : ¬ 9223372036854775807 < tx.size + 1 := by omega
        have st : (tx ++ ⟨#[58]⟩ : ByteArray).size = tx.size + 1 := by simp; rfl
        obtain ⟨t1, ht1⟩ : ∃ t1 : ByteArray, tx ++ ⟨#[58]⟩ = t1 := ⟨_, rfl⟩
        have ht2 := et.out
        rw [ht1] at st ht2
        have q2 : ¬ 9223372036854775807 < t1.size + ty.size := by omega
        have i1 : (0 : Int) ≤ (k : Int) := by omega
        clear qx qy lx ly sx sy st et
        go_upto_region 8 with fail
        refine region_chain 13 11 12 32 33 16 [(21, u5), (22, (.int .i64 x)), (23, (.string tx)), (24, (.string t1)), (25, (.pointer (some ⟨w.heap.size, 1, none⟩))), (26, (.slice (some ⟨bb, ob, none⟩) xs.length cb)), (27, (.int .i64 (k : Int))), (28, (.pointer (some ⟨bb, ob + k, none⟩))), (29, (.int .i64 y)), (30, (.string ty)), (31, (.string t))] (StA (w.heap.size + 1) w1 u5 (ptS xs ys k) t) (by kernel_rfl) (by kernel_rfl) rfl (by kernel_rfl) (by kernel_rfl) (by kernel_rfl) (by decide) (by decide) (by decide) (fun _ => by simp) (fun _ => by simp) (by rfl) ?h0 ?reads ?eff1 ?eff2 ?tail
        case h0 =>
          intro v1 v2
          exact ⟨kB.drew, hz, fun _ => HO.out, (fun h => by cases h), (fun h => by cases h)⟩
        case reads =>
          simp only [List.take_succ_cons, List.take_zero, AllRd]
          refine ⟨?_, ?_, ?_, ?_, ?_, ?_, ?_, ?_, ?_, ?_, ?_, ?_, ?_, trivial⟩
          · (intro hn1 hn2; clear hn1 hn2; refine ⟨21, u5, rfl, by kernel_rfl, ?_⟩; intro b1 b2 v1 v2 W h; have HST := Lib.hid h; obtain ⟨jB, jz, j1, j2, j3⟩ := id h; have g1 := (jB.cell (p := ⟨w.heap.size, 1, none⟩) (by show w.heap.size < _; omega)).trans c1; have g2 := (jB.cell (p := ⟨bb, ob + k, none⟩) (by have := hbx.out; show bb < _; omega)).trans HY.out; have HGW := Lib.hid (gstep HG.out (K1.out.trans (jB.mono (show w.heap.size ≤ w.heap.size + 1 by omega)))); intro K Q hK; simp only [updAll, Act.put, List.setIfInBounds_toArray, List.set_cons_zero, List.set_cons_succ, List.set_nil] at hK ⊢; go_wp2_with (go_at_call 19; first | (with_reducible refine (C1.out _ HGW.out).mono ?_; rintro e w5 ⟨rfl, hb5⟩) | (with_reducible refine (C2.out _ HGW.out).mono ?_; rintro e w5 ⟨rfl, hb5⟩)); first | exact hK _ (by first | exact h | exact h.step hb5 | exact h.step (by repeat' (first | exact Below.refl _ _ | apply bDrewN | apply bDrew))) | exact (by first | exact h | exact h.step hb5 | exact h.step (by repeat' (first | exact Below.refl _ _ | apply bDrewN | apply bDrew))))
          · (intro hn1 hn2; clear hn1 hn2; refine ⟨22, (.int .i64 x), rfl, by kernel_rfl, ?_⟩; intro b1 b2 v1 v2 W h; have HST := Lib.hid h; obtain ⟨jB, jz, j1, j2, j3⟩ := id h; have g1 := (jB.cell (p := ⟨w.heap.size, 1, none⟩) (by show w.heap.size < _; omega)).trans c1; have g2 := (jB.cell (p := ⟨bb, ob + k, none⟩) (by have := hbx.out; show bb < _; omega)).trans HY.out; have HGW := Lib.hid (gstep HG.out (K1.out.trans (jB.mono (show w.heap.size ≤ w.heap.size + 1 by omega)))); intro K Q hK; simp only [updAll, Act.put, List.setIfInBounds_toArray, List.set_cons_zero, List.set_cons_succ, List.set_nil] at hK ⊢; go_wp2_with (go_at_call 19; first | (with_reducible refine (C1.out _ HGW.out).mono ?_; rintro e w5 ⟨rfl, hb5⟩) | (with_reducible refine (C2.out _ HGW.out).mono ?_; rintro e w5 ⟨rfl, hb5⟩)); first | exact hK _ (by first | exact h | exact h.step hb5 | exact h.step (by repeat' (first | exact Below.refl _ _ | apply bDrewN | apply bDrew))) | exact (by first | exact h | exact h.step hb5 | exact h.step (by repeat' (first | exact Below.refl _ _ | apply bDrewN | apply bDrew))))
          · (intro hn1 hn2; clear hn1 hn2; refine ⟨23, (.string tx), rfl, by kernel_rfl, ?_⟩; intro b1 b2 v1 v2 W h; have HST := Lib.hid h; obtain ⟨jB, jz, j1, j2, j3⟩ := id h; have g1 := (jB.cell (p := ⟨w.heap.size, 1, none⟩) (by show w.heap.size < _; omega)).trans c1; have g2 := (jB.cell (p := ⟨bb, ob + k, none⟩) (by have := hbx.out; show bb < _; omega)).trans HY.out; have HGW := Lib.hid (gstep HG.out (K1.out.trans (jB.mono (show w.heap.size ≤ w.heap.size + 1 by omega)))); intro K Q hK; simp only [updAll, Act.put, List.setIfInBounds_toArray, List.set_cons_zero, List.set_cons_succ, List.set_nil] at hK ⊢; go_wp2_with (go_at_call 19; first | (with_reducible refine (C1.out _ HGW.out).mono ?_; rintro e w5 ⟨rfl, hb5⟩) | (with_reducible refine (C2.out _ HGW.out).mono ?_; rintro e w5 ⟨rfl, hb5⟩)); first | exact hK _ (by first | exact h | exact h.step hb5 | exact h.step (by repeat' (first | exact Below.refl _ _ | apply bDrewN | apply bDrew))) | exact (by first | exact h | exact h.step hb5 | exact h.step (by repeat' (first | exact Below.refl _ _ | apply bDrewN | apply bDrew))))
          · (intro hn1 hn2; clear hn1 hn2; refine ⟨24, (.string t1), rfl, by kernel_rfl, ?_⟩; intro b1 b2 v1 v2 W h; have HST := Lib.hid h; obtain ⟨jB, jz, j1, j2, j3⟩ := id h; have g1 := (jB.cell (p := ⟨w.heap.size, 1, none⟩) (by show w.heap.size < _; omega)).trans c1; have g2 := (jB.cell (p := ⟨bb, ob + k, none⟩) (by have := hbx.out; show bb < _; omega)).trans HY.out; have HGW := Lib.hid (gstep HG.out (K1.out.trans (jB.mono (show w.heap.size ≤ w.heap.size + 1 by omega)))); intro K Q hK; simp only [updAll, Act.put, List.setIfInBounds_toArray, List.set_cons_zero, List.set_cons_succ, List.set_nil] at hK ⊢; go_wp2_with (go_at_call 19; first | (with_reducible refine (C1.out _ HGW.out).mono ?_; rintro e w5 ⟨rfl, hb5⟩) | (with_reducible refine (C2.out _ HGW.out).mono ?_; rintro e w5 ⟨rfl, hb5⟩)); first | exact hK _ (by first | exact h | exact h.step hb5 | exact h.step (by repeat' (first | exact Below.refl _ _ | apply bDrewN | apply bDrew))) | exact (by first | exact h | exact h.step hb5 | exact h.step (by repeat' (first | exact Below.refl _ _ | apply bDrewN | apply bDrew))))
          · (intro hn1 hn2; clear hn1 hn2; refine ⟨25, (.pointer (some ⟨w.heap.size, 1, none⟩)), rfl, by kernel_rfl, ?_⟩; intro b1 b2 v1 v2 W h; have HST := Lib.hid h; obtain ⟨jB, jz, j1, j2, j3⟩ := id h; have g1 := (jB.cell (p := ⟨w.heap.size, 1, none⟩) (by show w.heap.size < _; omega)).trans c1; have g2 := (jB.cell (p := ⟨bb, ob + k, none⟩) (by have := hbx.out; show bb < _; omega)).trans HY.out; have HGW := Lib.hid (gstep HG.out (K1.out.trans (jB.mono (show w.heap.size ≤ w.heap.size + 1 by omega)))); intro K Q hK; simp only [updAll, Act.put, List.setIfInBounds_toArray, List.set_cons_zero, List.set_cons_succ, List.set_nil] at hK ⊢; go_wp2_with (go_at_call 19; first | (with_reducible refine (C1.out _ HGW.out).mono ?_; rintro e w5 ⟨rfl, hb5⟩) | (with_reducible refine (C2.out _ HGW.out).mono ?_; rintro e w5 ⟨rfl, hb5⟩)); first | exact hK _ (by first | exact h | exact h.step hb5 | exact h.step (by repeat' (first | exact Below.refl _ _ | apply bDrewN | apply bDrew))) | exact (by first | exact h | exact h.step hb5 | exact h.step (by repeat' (first | exact Below.refl _ _ | apply bDrewN | apply bDrew))))
          · (intro hn1 hn2; clear hn1 hn2; refine ⟨26, (.slice (some ⟨bb, ob, none⟩) xs.length cb), rfl, by kernel_rfl, ?_⟩; intro b1 b2 v1 v2 W h; have HST := Lib.hid h; obtain ⟨jB, jz, j1, j2, j3⟩ := id h; have g1 := (jB.cell (p := ⟨w.heap.size, 1, none⟩) (by show w.heap.size < _; omega)).trans c1; have g2 := (jB.cell (p := ⟨bb, ob + k, none⟩) (by have := hbx.out; show bb < _; omega)).trans HY.out; have HGW := Lib.hid (gstep HG.out (K1.out.trans (jB.mono (show w.heap.size ≤ w.heap.size + 1 by omega)))); intro K Q hK; simp only [updAll, Act.put, List.setIfInBounds_toArray, List.set_cons_zero, List.set_cons_succ, List.set_nil] at hK ⊢; go_wp2_with (go_at_call 19; first | (with_reducible refine (C1.out _ HGW.out).mono ?_; rintro e w5 ⟨rfl, hb5⟩) | (with_reducible refine (C2.out _ HGW.out).mono ?_; rintro e w5 ⟨rfl, hb5⟩)); first | exact hK _ (by first | exact h | exact h.step hb5 | exact h.step (by repeat' (first | exact Below.refl _ _ | apply bDrewN | apply bDrew))) | exact (by first | exact h | exact h.step hb5 | exact h.step (by repeat' (first | exact Below.refl _ _ | apply bDrewN | apply bDrew))))
          · (intro hn1 hn2; clear hn1 hn2; refine ⟨27, (.int .i64 (k : Int)), rfl, by kernel_rfl, ?_⟩; intro b1 b2 v1 v2 W h; have HST := Lib.hid h; obtain ⟨jB, jz, j1, j2, j3⟩ := id h; have g1 := (jB.cell (p := ⟨w.heap.size, 1, none⟩) (by show w.heap.size < _; omega)).trans c1; have g2 := (jB.cell (p := ⟨bb, ob + k, none⟩) (by have := hbx.out; show bb < _; omega)).trans HY.out; have HGW := Lib.hid (gstep HG.out (K1.out.trans (jB.mono (show w.heap.size ≤ w.heap.size + 1 by omega)))); intro K Q hK; simp only [updAll, Act.put, List.setIfInBounds_toArray, List.set_cons_zero, List.set_cons_succ, List.set_nil] at hK ⊢; go_wp2_with (go_at_call 19; first | (with_reducible refine (C1.out _ HGW.out).mono ?_; rintro e w5 ⟨rfl, hb5⟩) | (with_reducible refine (C2.out _ HGW.out).mono ?_; rintro e w5 ⟨rfl, hb5⟩)); first | exact hK _ (by first | exact h | exact h.step hb5 | exact h.step (by repeat' (first | exact Below.refl _ _ | apply bDrewN | apply bDrew))) | exact (by first | exact h | exact h.step hb5 | exact h.step (by repeat' (first | exact Below.refl _ _ | apply bDrewN | apply bDrew))))
          · (intro hn1 hn2; clear hn1 hn2; refine ⟨28, (.pointer (some ⟨bb, ob + k, none⟩)), rfl, by kernel_rfl, ?_⟩; intro b1 b2 v1 v2 W h; have HST := Lib.hid h; obtain ⟨jB, jz, j1, j2, j3⟩ := id h; have g1 := (jB.cell (p := ⟨w.heap.size, 1, none⟩) (by show w.heap.size < _; omega)).trans c1; have g2 := (jB.cell (p := ⟨bb, ob + k, none⟩) (by have := hbx.out; show bb < _; omega)).trans HY.out; have HGW := Lib.hid (gstep HG.out (K1.out.trans (jB.mono (show w.heap.size ≤ w.heap.size + 1 by omega)))); intro K Q hK; simp only [updAll, Act.put, List.setIfInBounds_toArray, List.set_cons_zero, List.set_cons_succ, List.set_nil] at hK ⊢; go_wp2_with (go_at_call 19; first | (with_reducible refine (C1.out _ HGW.out).mono ?_; rintro e w5 ⟨rfl, hb5⟩) | (with_reducible refine (C2.out _ HGW.out).mono ?_; rintro e w5 ⟨rfl, hb5⟩)); first | exact hK _ (by first | exact h | exact h.step hb5 | exact h.step (by repeat' (first | exact Below.refl _ _ | apply bDrewN | apply bDrew))) | exact (by first | exact h | exact h.step hb5 | exact h.step (by repeat' (first | exact Below.refl _ _ | apply bDrewN | apply bDrew))))
          · (intro hn1 hn2; clear hn1 hn2; refine ⟨29, (.int .i64 y), rfl, by kernel_rfl, ?_⟩; intro b1 b2 v1 v2 W h; have HST := Lib.hid h; obtain ⟨jB, jz, j1, j2, j3⟩ := id h; have g1 := (jB.cell (p := ⟨w.heap.size, 1, none⟩) (by show w.heap.size < _; omega)).trans c1; have g2 := (jB.cell (p := ⟨bb, ob + k, none⟩) (by have := hbx.out; show bb < _; omega)).trans HY.out; have HGW := Lib.hid (gstep HG.out (K1.out.trans (jB.mono (show w.heap.size ≤ w.heap.size + 1 by omega)))); intro K Q hK; simp only [updAll, Act.put, List.setIfInBounds_toArray, List.set_cons_zero, List.set_cons_succ, List.set_nil] at hK ⊢; go_wp2_with (go_at_call 19; first | (with_reducible refine (C1.out _ HGW.out).mono ?_; rintro e w5 ⟨rfl, hb5⟩) | (with_reducible refine (C2.out _ HGW.out).mono ?_; rintro e w5 ⟨rfl, hb5⟩)); first | exact hK _ (by first | exact h | exact h.step hb5 | exact h.step (by repeat' (first | exact Below.refl _ _ | apply bDrewN | apply bDrew))) | exact (by first | exact h | exact h.step hb5 | exact h.step (by repeat' (first | exact Below.refl _ _ | apply bDrewN | apply bDrew))))
          · (intro hn1 hn2; clear hn1 hn2; refine ⟨30, (.string ty), rfl, by kernel_rfl, ?_⟩; intro b1 b2 v1 v2 W h; have HST := Lib.hid h; obtain ⟨jB, jz, j1, j2, j3⟩ := id h; have g1 := (jB.cell (p := ⟨w.heap.size, 1, none⟩) (by show w.heap.size < _; omega)).trans c1; have g2 := (jB.cell (p := ⟨bb, ob + k, none⟩) (by have := hbx.out; show bb < _; omega)).trans HY.out; have HGW := Lib.hid (gstep HG.out (K1.out.trans (jB.mono (show w.heap.size ≤ w.heap.size + 1 by omega)))); intro K Q hK; simp only [updAll, Act.put, List.setIfInBounds_toArray, List.set_cons_zero, List.set_cons_succ, List.set_nil] at hK ⊢; go_wp2_with (go_at_call 19; first | (with_reducible refine (C1.out _ HGW.out).mono ?_; rintro e w5 ⟨rfl, hb5⟩) | (with_reducible refine (C2.out _ HGW.out).mono ?_; rintro e w5 ⟨rfl, hb5⟩)); first | exact hK _ (by first | exact h | exact h.step hb5 | exact h.step (by repeat' (first | exact Below.refl _ _ | apply bDrewN | apply bDrew))) | exact (by first | exact h | exact h.step hb5 | exact h.step (by repeat' (first | exact Below.refl _ _ | apply bDrewN | apply bDrew))))
          · (intro hn1 hn2; clear hn1 hn2; refine ⟨31, (.string t), rfl, by kernel_rfl, ?_⟩; intro b1 b2 v1 v2 W h; have HST := Lib.hid h; obtain ⟨jB, jz, j1, j2, j3⟩ := id h; have g1 := (jB.cell (p := ⟨w.heap.size, 1, none⟩) (by show w.heap.size < _; omega)).trans c1; have g2 := (jB.cell (p := ⟨bb, ob + k, none⟩) (by have := hbx.out; show bb < _; omega)).trans HY.out; have HGW := Lib.hid (gstep HG.out (K1.out.trans (jB.mono (show w.heap.size ≤ w.heap.size + 1 by omega)))); intro K Q hK; simp only [updAll, Act.put, List.setIfInBounds_toArray, List.set_cons_zero, List.set_cons_succ, List.set_nil] at hK ⊢; go_wp2_with (go_at_call 19; first | (with_reducible refine (C1.out _ HGW.out).mono ?_; rintro e w5 ⟨rfl, hb5⟩) | (with_reducible refine (C2.out _ HGW.out).mono ?_; rintro e w5 ⟨rfl, hb5⟩)); first | exact hK _ (by first | exact h | exact h.step hb5 | exact h.step (by repeat' (first | exact Below.refl _ _ | apply bDrewN | apply bDrew))) | exact (by first | exact h | exact h.step hb5 | exact h.step (by repeat' (first | exact Below.refl _ _ | apply bDrewN | apply bDrew))))
          · intro hn1 hn2; exact absurd rfl hn1
          · intro hn1 hn2; exact absurd rfl hn2
        case eff1 =>
          intro o ho
          obtain rfl := Option.some.inj (show some _ = some o from ho)
          intro v1 v2 W h; have HST := Lib.hid h; obtain ⟨jB, jz, j1, j2, j3⟩ := id h; have g1 := (jB.cell (p := ⟨w.heap.size, 1, none⟩) (by show w.heap.size < _; omega)).trans c1; have g2 := (jB.cell (p := ⟨bb, ob + k, none⟩) (by have := hbx.out; show bb < _; omega)).trans HY.out; have HGW := Lib.hid (gstep HG.out (K1.out.trans (jB.mono (show w.heap.size ≤ w.heap.size + 1 by omega)))); intro K Q hK; simp only [updAll, Act.put, List.setIfInBounds_toArray, List.set_cons_zero, List.set_cons_succ, List.set_nil] at hK ⊢
          go_wp2_with fail
          first | exact hK _ _ h.built | exact h.built
        case eff2 =>
          intro o ho
          obtain rfl := Option.some.inj (show some _ = some o from ho)
          intro v1 v2 W h; have HST := Lib.hid h; obtain ⟨jB, jz, j1, j2, j3⟩ := id h; have g1 := (jB.cell (p := ⟨w.heap.size, 1, none⟩) (by show w.heap.size < _; omega)).trans c1; have g2 := (jB.cell (p := ⟨bb, ob + k, none⟩) (by have := hbx.out; show bb < _; omega)).trans HY.out; have HGW := Lib.hid (gstep HG.out (K1.out.trans (jB.mono (show w.heap.size ≤ w.heap.size + 1 by omega)))); intro K Q hK; simp only [updAll, Act.put, List.setIfInBounds_toArray, List.set_cons_zero, List.set_cons_succ, List.set_nil] at hK ⊢
          obtain ⟨g, rfl, hg⟩ := j2 rfl rfl
          refine wp_append_own _ (.tmp 21) (.tmp 32) 51 rfl (w.heap.size + 1) 9 i0 (.string ⟨#[]⟩) 1 16 Tryd.underlying51 hi hz0 hz1' hz2 rfl (by decide) u5 (ptS xs ys k).length _ rfl (j1 rfl) ⟨g, 0, none⟩ 1 1 [.string _] rfl rfl (one_cellS hg) (one_oneS _) (by unfold maxLen; omega) (by omega) jz ?_
          intro v' w' hown' hgrow hnil
          first | exact hK _ _ (h.added hown' hgrow) | exact h.added hown' hgrow
        case tail =>
          intro v1 v2 W h; have HST := Lib.hid h; obtain ⟨jB, jz, j1, j2, j3⟩ := id h; have g1 := (jB.cell (p := ⟨w.heap.size, 1, none⟩) (by show w.heap.size < _; omega)).trans c1; have g2 := (jB.cell (p := ⟨bb, ob + k, none⟩) (by have := hbx.out; show bb < _; omega)).trans HY.out; have HGW := Lib.hid (gstep HG.out (K1.out.trans (jB.mono (show w.heap.size ≤ w.heap.size + 1 by omega))))
          refine wpOp_plain rfl rfl ?_
          simp only [updAll, Act.put, List.setIfInBounds_toArray, List.set_cons_zero, List.set_cons_succ, List.set_nil]
          go_wp2_with fail
          go_roundw
          case rel => exact ⟨k + 1, by omega, by push_cast; rfl, by rw [nx.out]; exact j3 rfl, jB, jz⟩
          case measure => (simp [intOf]; omega)
      · obtain rfl : k = xs.length := by omega
        obtain ⟨g, c, rfl, q1, q2, q3⟩ := HO.out.cells (fun e => by have := ptS_len xs ys xs.length; rw [e] at this; simp at this; omega)
        have ej : Lib.join ((ptS xs ys xs.length).map (·.data.toList)) (ByteArray.mk #[32]).data.toList = textC xs ys := by rw [ptS_all HN.out]; rfl
        have J := Lib.hid (fun W hc hg => join_any g 0 c (ptS xs ys xs.length) ⟨#[32]⟩ W hc hg (by rw [ptS_len]; omega) q1 (by rw [ej]; exact textC_len n3 (fun j => HQ.out j)))
        simp only [ej] at J
        have KW : Below w.heap.size w wr := K1.out.trans (kB.mono (by omega))
        clear HO fx fy HG HK HN HQ ej q1
        rw [ptS_len] at J ⊢
        obtain ⟨t, ht⟩ : ∃ t, textC xs ys = t := ⟨_, rfl⟩
        rw [ht] at J
        have HT := Lib.hid ht
        clear ht
        go_wp2_with (go_at_call 26; refine (J.out _ q3 q2).mono ?_; rintro e w6 ⟨rfl, hb6⟩)
        exact bodyPost_ret (v := .tuple #[.string ⟨t.toArray⟩, .int .i64 0]) (by simp only [results, Tryd.results10]; go_simp) rfl ⟨by rw [HT.out], (by repeat' (first | exact Below.refl _ _ | assumption | apply bDrewN | apply bDrew | apply bAlloc | (refine bSet ?_ ?_ _) | (refine bStep ?_ (by assumption)) | omega | (simp <;> omega)))⟩
  · rw [tcS_no hk]
    dsimp only
    have hk2 : (checkC xs ys != 0) = true := by simpa using hk
    generalize checkC xs ys = k at *
    clear hG hA hB hk
    generalize xs.length = lx at *
    generalize ys.length = ly at *
    go_enter Tryd.func10, Tryd.ntmps10
    go_wp2_with (go_at_call 25; refine (CK.out _ (HA.out.step (by repeat' (first | exact Below.refl _ _ | assumption | apply bDrewN | apply bDrew | apply bAlloc | (refine bSet ?_ ?_ _) | (refine bStep ?_ (by assumption)) | omega | (simp <;> omega)))) (HB.out.step (by repeat' (first | exact Below.refl _ _ | assumption | apply bDrewN | apply bDrew | apply bAlloc | (refine bSet ?_ ?_ _) | (refine bStep ?_ (by assumption)) | omega | (simp <;> omega))))).mono ?_; rintro e w1 ⟨rfl, hb1⟩)
    exact bodyPost_ret (v := .tuple #[.string ⟨#[]⟩, .int .i64 k]) (by simp only [results, Tryd.results10]; go_simp) rfl ⟨rfl, (by repeat' (first | exact Below.refl _ _ | assumption | apply bDrewN | apply bDrew | apply bAlloc | (refine bSet ?_ ?_ _) | (refine bStep ?_ (by assumption)) | omega | (simp <;> omega)))⟩
end Go.Proofs.YtolnbblikfpnbaaDoor
