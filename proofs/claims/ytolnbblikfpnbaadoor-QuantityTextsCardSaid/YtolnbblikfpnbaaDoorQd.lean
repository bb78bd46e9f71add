/-
  Text and Parse of package quantity.
-/
import Derived.Test.YtolnbblikfpnbaaDoorQc
import Derived.Test.YtolnbblikfpnbaaDoorWh
set_option linter.unusedSimpArgs false
set_option linter.unusedVariables false
namespace Go.Proofs.YtolnbblikfpnbaaDoor
open Sx Go.RowKit
theorem okS_P {p : Int × Int} : okS p = true ↔ okP p := by
  rw [okS_iff, isQ_iff, isQ_iff]
  unfold okP
  omega
def textR (p : Int × Int) : ByteArray × Int := if okS p = true then (⟨(txtP p).toArray⟩, 0) else (⟨#[]⟩, 2)
noncomputable def parR (l : List UInt8) : (Int × Int) × Int := match parS l with
  | some p => (p, 0)
  | none => ((0, 0), 8)
theorem txt_app' (a b : List UInt8) : ((ByteArray.mk a.toArray) ++ (ByteArray.mk #[46, 46])) ++ (ByteArray.mk b.toArray) = ⟨(a ++ 46 :: 46 :: b).toArray⟩ := ba_inj (by simp)
set_option maxHeartbeats 1000000 in
set_option maxRecDepth 20000 in
theorem Text_any (p : Int × Int) (w : World) (hG : Glob0 w) : Calls Tryd.prog 6 #[.agg #[.int .i64 p.1, .int .i64 p.2]] w fun e w' => e = .returned (.tuple #[.string (textR p).1, .int .i64 (textR p).2]) ∧ Below w.heap.size w w' := by
  obtain ⟨x, y⟩ := p
  unfold textR
  have HG := Lib.hid hG
  clear hG
  cases hk : okS (x, y)
  · rw [if_neg (by decide)]
    dsimp only
    go_enter Tryd.func6, Tryd.ntmps6
    go_wp2_with (go_at_call 18; refine (valid_oneN _ _ _ _ _ _ _ (by simp)).mono ?_; rintro e w1 ⟨rfl, hb⟩; obtain ⟨hcw1, hfw1⟩ := bcell hb; have hzw1 := Below.size hb; (try simp at hzw1); have hzw10 : w.heap.size < w1.heap.size := (by omega); have hzw11 : w.heap.size + 1 < w1.heap.size := (by omega))
    exact bodyPost_ret (v := .tuple #[.string ⟨#[]⟩, .int .i64 2]) (by simp only [results, Tryd.results6]; go_simp) rfl ⟨rfl, (by repeat' (first | exact Below.refl _ _ | assumption | apply bDrewN | apply bDrew | apply bAlloc | (refine bSet ?_ ?_ _) | (refine bStep ?_ (by assumption)) | omega | (simp <;> omega)))⟩
  · rw [if_pos rfl]
    dsimp only
    obtain ⟨b1, b2, b3⟩ := okS_P.1 hk
    dsimp only at b1 b2 b3
    have C1 := Lib.hid (fun W hG => write_any x (by omega) (by omega) W hG)
    have C2 := Lib.hid (fun W hG => write_any y (by omega) (by omega) W hG)
    have l1 := okP_len b1 (by omega)
    have l2 := okP_len (by omega) b3
    unfold txtP
    dsimp only
    generalize Lib.itoa x = lx at *
    generalize Lib.itoa y = ly at *
    have q1 : ¬ 9223372036854775807 < lx.length + 2 := by omega
    have q2 : ¬ 9223372036854775807 < lx.length + 2 + ly.length := by omega
    clear b1 b2 b3 l1 l2
    go_enter Tryd.func6, Tryd.ntmps6
    go_wp2_with (go_at_call 18; refine (valid_oneN _ _ _ _ _ _ _ (by simp)).mono ?_; rintro e w1 ⟨rfl, hb⟩; obtain ⟨hcw1, hfw1⟩ := bcell hb; have hzw1 := Below.size hb; (try simp at hzw1); have hzw10 : w.heap.size < w1.heap.size := (by omega); have hzw11 : w.heap.size + 1 < w1.heap.size := (by omega))
    have c0 : w1.cell? ⟨w.heap.size, 0, none⟩ = some (.int .i64 x) := (hb.cell (p := ⟨w.heap.size, 0, none⟩) (by simp; omega)).trans (by go_simp)
    have c1 : w1.cell? ⟨w.heap.size, 1, none⟩ = some (.int .i64 y) := (hb.cell (p := ⟨w.heap.size, 1, none⟩) (by simp; omega)).trans (by go_simp)
    have f0 : ∀ s : WStep w1, s.1.cell? ⟨w.heap.size, 0, none⟩ = some (.int .i64 x) := fun s => cell_step c0 s.2
    have f1 : ∀ s : WStep w1, s.1.cell? ⟨w.heap.size, 1, none⟩ = some (.int .i64 y) := fun s => cell_step c1 s.2
    have HK := Lib.hid (bStep (bAlloc (bAlloc (Below.refl w.heap.size w) _) _) hb)
    have HG1 := Lib.hid (gstep HG.out HK.out)
    have CX := Lib.hid (fun s : WStep w1 => step_call s (C1.out s.1 (gstep HG1.out s.2)))
    have CY := Lib.hid (fun s : WStep w1 => step_call s (C2.out s.1 (gstep HG1.out s.2)))
    clear c0 c1 C1 C2 HG HG1 hcw1 hfw1 hb
    refine wp_region_step (by kernel_rfl) (by kernel_rfl) ?_
    repeat (quiet_step (first | (with_reducible exact CX.out _) | (with_reducible exact CY.out _)))
    refine wpQuiet_nil ?_
    intro _ hw'
    obtain ⟨⟨W2, hW2⟩, hw''⟩ := hw'
    dsimp only at hw''
    subst hw''
    go_wp2_with fail
    exact bodyPost_ret (v := .tuple #[.string ((⟨lx.toArray⟩ ++ ⟨#[46, 46]⟩) ++ ⟨ly.toArray⟩), .int .i64 0]) (by simp only [results, Tryd.results6]; go_simp) rfl ⟨by rw [txt_app'], bStep HK.out hW2⟩
end Go.Proofs.YtolnbblikfpnbaaDoor
