/-
 The examples of the statements about package passport: works answers true.
-/
import Derived.Test.YtmpilgkfbibhlaaGreatDoorG43R
import Derived.Test.YtmpilgkfbibhlaaGreatDoorG13R
set_option linter.unusedSimpArgs false
set_option linter.unusedVariables false
namespace Go.Proofs.YtmpilgkfbibhlaaGreatDoor
open Sx Go.RowKit
theorem byt5 : Byt [5] := fun k => by
 match k with
 | 0 => decide
 | k + 1 => simp
theorem byt_one (W : World) (x : Nat) (T : TypeId) : BytV (some ⟨W.heap.size, 0, none⟩) [x] (W.alloc (.cells #[.int .u8 x] T)) := fun _ => by
 refine ⟨_, 0, rfl, by simp, fun k hk => ?_⟩
 obtain rfl : k = 0 := by simpa using hk
 go_simp
theorem ex_dig : digR 0 2 [5] = (30, 0) := by rfl
set_option maxHeartbeats 1000000 in
set_option maxRecDepth 20000 in
theorem works_any (w : World) (hG : Glob0 w) : Calls Tryz.prog 10 #[] w fun e w' => e = .returned (.bool true) ∧ Below w.heap.size w w' := by
 have CD := Lib.hid (fun W => Digest_any 0 2 1 (some ⟨w.heap.size, 0, none⟩) [5] W (by decide) byt5 (by decide))
 rw [ex_dig] at CD
 have CT := Lib.hid (fun W hG => exText_w W hG)
 have HB := Lib.hid (byt_one w 5 5)
 have HG := Lib.hid hG
 clear hG
 go_enter Tryz.func10, Tryz.ntmps10
 go_wp2_with (first | (go_at_call 36; refine (CD.out _ HB.out).mono ?_; rintro e w1 ⟨rfl, hb1⟩; have kb1 : Below w.heap.size w w1 := ((Below.refl _ _).alloc (Nat.le_refl _) _).trans (hb1.mono (by simp))) | (go_at_call 37; refine (CT.out _ (glob_step HG.out kb1)).mono ?_; rintro e w2 ⟨rfl, hb2⟩))
 go_ret
 exact ⟨rfl, bStep kb1 hb2⟩
end Go.Proofs.YtmpilgkfbibhlaaGreatDoor
