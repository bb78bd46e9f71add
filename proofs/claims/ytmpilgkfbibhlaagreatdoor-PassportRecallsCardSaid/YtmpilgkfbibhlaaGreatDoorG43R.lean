/-
 Text of package passport at the example, walked.
-/
import Derived.Test.YtmpilgkfbibhlaaGreatDoorG0R
import Derived.Test.YtmpilgkfbibhlaaGreatDoorG42R
import Derived.Test.YtmpilgkfbibhlaaGreatDoorG15R
import Derived.Test.YtmpilgkfbibhlaaGreatDoorG12R
import Derived.Test.YtmpilgkfbibhlaaGreatDoorG1R
import Derived.Test.YtmpilgkfbibhlaaGreatDoorG4R
import Derived.Deep.RegionWith
import Derived.Deep.CutRange
set_option linter.unusedSimpArgs false
set_option linter.unusedVariables false
namespace Go.Proofs.YtmpilgkfbibhlaaGreatDoor
open Sx Go.RowKit Mr
theorem okE_ex : okE 1 5 1000 2 ⟨#[98, 49]⟩ ⟨#[]⟩ = true := by kernel_rfl
theorem itoa_ex : (⟨(Lib.itoa 5).toArray⟩ : ByteArray) = ⟨#[53]⟩ ∧ (⟨(Lib.itoa 1000).toArray⟩ : ByteArray) = ⟨#[49, 48, 48, 48]⟩ ∧ (⟨(Lib.itoa 2).toArray⟩ : ByteArray) = ⟨#[50]⟩ := ⟨by kernel_rfl, by kernel_rfl, by kernel_rfl⟩
theorem row_sl8 {W : World} {B E sz n : Nat} {v : Value} {xs : List Value} (h : W.ownsRow B E sz v n xs) : ∃ a c, v = .slice a n c := by
 obtain ⟨-, h2⟩ := h
 rcases h2 with ⟨e1, e2⟩ | ⟨PB, cp, cur, q1, -⟩
 ·exact ⟨none, 0, by rw [e1, e2]⟩
 ·exact ⟨_, cp, q1⟩
theorem new_cells1 {W : World} {cs : List Value} {t : TypeId} {n : Nat} : n * 1 ≠ 0 → ∃ p off, (some (⟨W.heap.size, 0, none⟩ : Addr)) = some ⟨p, off, none⟩ ∧ ∀ (j : Nat) (u : Value), cs[j]? = some u → (W.alloc (.cells cs.toArray t)).cell? ⟨p, off + j, none⟩ = some u := fun _ =>
 ⟨_, 0, rfl, fun j u hu => blk_cell (blk_new W _) (by rw [Nat.zero_add]; simpa using hu)⟩
theorem str2_one {a b : ByteArray} : ∀ u ∈ [Value.string a, .string b], u.oneCell' = true := by
 intro u hu
 simp only [List.mem_cons, List.not_mem_nil, or_false] at hu
 rcases hu with rfl | rfl <;> rfl
theorem full_ex : fullT [⟨#[109, 97, 100, 101]⟩, ⟨#[53]⟩, ⟨#[49, 48, 48, 48]⟩, ⟨#[50]⟩, ⟨#[98, 49]⟩, ⟨#[]⟩] = [⟨#[109, 97, 100, 101]⟩, ⟨#[53]⟩, ⟨#[49, 48, 48, 48]⟩, ⟨#[50]⟩, ⟨#[98, 49]⟩] := by kernel_rfl
theorem join_ex : (⟨(Lib.join (([⟨#[109, 97, 100, 101]⟩, ⟨#[53]⟩, ⟨#[49, 48, 48, 48]⟩, ⟨#[50]⟩, ⟨#[98, 49]⟩] : List ByteArray).map (·.data.toList)) (⟨#[32]⟩ : ByteArray).data.toList).toArray⟩ : ByteArray) = ⟨#[109, 97, 100, 101, 32, 53, 32, 49, 48, 48, 48, 32, 50, 32, 98, 49]⟩ := by kernel_rfl
theorem join_len : (Lib.join (([⟨#[109, 97, 100, 101]⟩, ⟨#[53]⟩, ⟨#[49, 48, 48, 48]⟩, ⟨#[50]⟩, ⟨#[98, 49]⟩] : List ByteArray).map (·.data.toList)) (⟨#[32]⟩ : ByteArray).data.toList).length ≤ 140737488355328 := by
 have h : (Lib.join (([⟨#[109, 97, 100, 101]⟩, ⟨#[53]⟩, ⟨#[49, 48, 48, 48]⟩, ⟨#[50]⟩, ⟨#[98, 49]⟩] : List ByteArray).map (·.data.toList)) (⟨#[32]⟩ : ByteArray).data.toList).length = 16 := by kernel_rfl
 omega
structure E8 (w1 : World) (ve : Value) (xs : List Value) (u1 u2 : Value) (bm b0 b1 b2 b3 b4 : Bool) (vm v0 v1 v2 v3 v4 : Value) (W : World) : Prop where
 p : Below w1.heap.size w1 W
 a : b3 = false → W.ownsRow w1.heap.size 9 1 ve 2 xs
 z : b3 = true → W.ownsRow w1.heap.size 9 1 v3 4 (xs ++ [u1, u2])
 r0 : b0 = true → v0 = u1
 r1 : b1 = true → v1 = u2
 r2 : b2 = true → b3 = false → ∃ g, v2 = .slice (some ⟨g, 0, none⟩) 2 2 ∧ W.heap[g]? = some (.cells #[u1, u2] 9 (0, 0))
 r4 : b4 = true → v4 = v3
 n0 : b0 = false → b2 = false
 n1 : b1 = false → b2 = false
 n2 : b2 = false → b3 = false
 n3 : b3 = false → b4 = false
 rm : bm = true → vm = ve
 i4 : b4 = false → v4 = ve
 nm : bm = false → b3 = false
section
variable {w1 W w2 : World} {ve u1 u2 vm v0 v1 v2 v3 v4 : Value} {xs : List Value} {bm b0 b1 b2 b3 b4 : Bool}
theorem E8.mk0 (h : E8 w1 ve xs u1 u2 bm false b1 b2 b3 b4 vm v0 v1 v2 v3 v4 W) (hb : Below W.heap.size W w2) : E8 w1 ve xs u1 u2 bm true b1 b2 b3 b4 vm u1 v1 v2 v3 v4 w2 := by
 have h2 := h.n0 rfl
 subst h2
 have h3 := h.n2 rfl
 subst h3
 have h4 := h.n3 rfl
 subst h4
 exact ⟨bStep h.p hb, fun e => own_step (h.a e) hb, (fun e => by cases e), (fun _ => rfl), h.r1, (fun e => by cases e), (fun e => by cases e), (fun e => by cases e), (fun _ => rfl), (fun _ => rfl), (fun _ => rfl), h.rm, h.i4, (fun _ => rfl)⟩
theorem E8.mk1 (h : E8 w1 ve xs u1 u2 bm b0 false b2 b3 b4 vm v0 v1 v2 v3 v4 W) (hb : Below W.heap.size W w2) : E8 w1 ve xs u1 u2 bm b0 true b2 b3 b4 vm v0 u2 v2 v3 v4 w2 := by
 have h2 := h.n1 rfl
 subst h2
 have h3 := h.n2 rfl
 subst h3
 have h4 := h.n3 rfl
 subst h4
 exact ⟨bStep h.p hb, fun e => own_step (h.a e) hb, (fun e => by cases e), h.r0, (fun _ => rfl), (fun e => by cases e), (fun e => by cases e), (fun _ => rfl), (fun e => by cases e), (fun _ => rfl), (fun _ => rfl), h.rm, h.i4, (fun _ => rfl)⟩
theorem E8.mk2 (h : E8 w1 ve xs u1 u2 bm true true false b3 b4 vm v0 v1 v2 v3 v4 W) : E8 w1 ve xs u1 u2 bm true true true b3 b4 vm v0 v1 (.slice (some ⟨W.heap.size, 0, none⟩) 2 2) v3 v4 (W.alloc (.cells #[u1, u2] 9)) := by
 have h3 := h.n2 rfl
 subst h3
 have h4 := h.n3 rfl
 subst h4
 have hb : Below W.heap.size W (W.alloc (.cells #[u1, u2] 9)) := bAlloc (Below.refl _ _) _
 exact ⟨bStep h.p hb, fun e => own_step (h.a e) hb, (fun e => by cases e), h.r0, h.r1, (fun _ _ => ⟨_, rfl, blk_new W _⟩), (fun e => by cases e), (fun e => by cases e), (fun e => by cases e), (fun e => by cases e), (fun _ => rfl), h.rm, h.i4, (fun _ => rfl)⟩
theorem E8.app (hbm : bm = true) {o : Oper} {a : Act} {K : Act → World → Prop} {Q : Exit → Act → World → Prop} (h1 : u1.oneCell' = true) (h2 : u2.oneCell' = true) (h : E8 w1 ve xs u1 u2 bm b0 b1 true false false vm v0 v1 v2 v3 v4 W)
  (s p : Operand) (ho : o.op = .call { callee := .builtin .append, args := #[s, p], argTypes := #[47, 47] }) (hs : a.eval s = ve) (hp : a.eval p = v2)
  (hK : ∀ v' W', E8 w1 ve xs u1 u2 bm b0 b1 true true false vm v0 v1 v2 v' v4 W' → K (a.put o.dst v') W') : o.wp Tryz.prog a W K Q := by
 obtain ⟨i0, hi, hz0, hz1, hz2⟩ := info_parts infoS'
 obtain ⟨g, rfl, hg⟩ := h.r2 rfl rfl
 have hown := h.a rfl
 refine wp_app (P := Tryz.prog) W s p 47 ho w1.heap.size 9 i0 (.string ⟨#[]⟩) 1 16 Tryz.underlying47 hi hz0 hz1 hz2 rfl (by decide) ve 2 xs hs hown (some ⟨g, 0, none⟩) 2 2 [u1, u2] hp rfl (fun _ => ⟨g, 0, rfl, fun j u hu => blk_cell hg (by rw [Nat.zero_add]; simpa using hu)⟩) (fun u hu => ?_) (by unfold maxLen; omega) (by omega) h.p.size fun v' W' q1 q2 q3 => hK v' W' ?_
 ·simp only [List.mem_cons, List.not_mem_nil, or_false] at hu
  rcases hu with rfl | rfl
  ·exact h1
  ·exact h2
 ·exact ⟨h.p.grown q2 h.p.size (fun k hk => (World.ownsRow.lt hown k hk).1), (fun e => by cases e), (fun _ => q1), h.r0, h.r1, (fun _ e => by cases e), (fun e => by cases e), h.n0, h.n1, (fun e => by cases e), (fun e => by cases e), h.rm, h.i4, (fun e => by subst e; exact absurd hbm (by decide))⟩
theorem E8.mk4 (h : E8 w1 ve xs u1 u2 bm b0 b1 b2 true false vm v0 v1 v2 v3 v4 W) : E8 w1 ve xs u1 u2 bm b0 b1 b2 true true vm v0 v1 v2 v3 v3 W := ⟨h.p, h.a, h.z, h.r0, h.r1, h.r2, (fun _ => rfl), h.n0, h.n1, h.n2, (fun e => by cases e), h.rm, (fun e => by cases e), h.nm⟩
end
set_option maxHeartbeats 4000000 in
set_option maxRecDepth 20000 in
theorem exText_w (w : World) (hG : Glob0 w) : Calls Tryz.prog 37 #[.agg #[.int .i64 1, .int .i64 5, .int .i64 1000, .int .i64 2, .string ⟨#[98, 49]⟩, .string ⟨#[]⟩]] w fun e w' => e = .returned (.tuple #[.string ⟨#[109, 97, 100, 101, 32, 53, 32, 49, 48, 48, 48, 32, 50, 32, 98, 49]⟩, .int .i64 0]) ∧ Below w.heap.size w w' := by
 have HG := Lib.hid hG
 have HB0 : Hid (Below w.heap.size w (w.alloc (.cells #[.int .i64 1, .int .i64 5, .int .i64 1000, .int .i64 2, .string ⟨#[98, 49]⟩, .string ⟨#[]⟩] 29))) := bAlloc (Below.refl _ _) _
 have HX0 := Lib.hid (blk_new w (.cells #[.int .i64 1, .int .i64 5, .int .i64 1000, .int .i64 2, .string ⟨#[98, 49]⟩, .string ⟨#[]⟩] 29))
 have CK : Hid (∀ W, Below w.heap.size w W → Calls Tryz.prog 42 #[.agg #[.int .i64 1, .int .i64 5, .int .i64 1000, .int .i64 2, .string ⟨#[98, 49]⟩, .string ⟨#[]⟩]] W fun e w' => e = .returned (.int .i64 0) ∧ Below W.heap.size W w') := fun W hW => by
  have h := Check_any 1 5 1000 2 ⟨#[98, 49]⟩ ⟨#[]⟩ W (gstep hG hW) (by decide) (by decide)
  rw [okE_ex] at h
  exact h
 have CM : Hid (∀ n : Int, (n = 5 ∨ n = 1000 ∨ n = 2) → ∀ W, Below w.heap.size w W → Calls Tryz.prog 88 #[.int .i64 n, .int .i64 10] W fun e w' => e = .returned (.string ⟨(Lib.itoa n).toArray⟩) ∧ Below W.heap.size W w') := fun n hn W hW => fmt_any n (by omega) (by omega) W (gstep hG hW).1
 have C5 := Lib.hid (CM.out 5 (by omega))
 have C1 := Lib.hid (CM.out 1000 (by omega))
 have C2 := Lib.hid (CM.out 2 (by omega))
 rw [itoa_ex.1] at C5
 rw [itoa_ex.2.1] at C1
 rw [itoa_ex.2.2] at C2
 have CF : Hid (∀ W, Calls Tryz.prog 87 #[.int .i64 1] W fun en w' => ∃ B, en = .returned (.pointer (some ⟨B, 6, none⟩)) ∧ (w'.cell? ⟨B, 6, none⟩ = some (.string ⟨#[109, 97, 100, 101]⟩) ∧ B < w'.heap.size) ∧ Below W.heap.size W w') := fun W => (formOf_at 1 (by decide) W).mono fun e w' q => by
  obtain ⟨B, e1, q2, q3⟩ := q
  exact ⟨B, e1, ⟨q2.2 6 _ rfl, q2.1⟩, q3⟩
 clear CM hG
 go_enter Tryz.func37, Tryz.ntmps37
 go_upto_region 4 with (go_at_call 42; refine (CK.out _ HB0.out).mono ?_; rintro e w1 ⟨rfl, hb⟩; have HB1 := Lib.hid (bStep HB0.out hb); have HX1 := Lib.hid (blk_step HX0.out hb); clear hb)
 have x0 := blk_cell (o := 0) HX1.out rfl
 have x1 := blk_cell (o := 1) HX1.out rfl
 have x2 := blk_cell (o := 2) HX1.out rfl
 have x3 := blk_cell (o := 3) HX1.out rfl
 have x4 := blk_cell (o := 4) HX1.out rfl
 have x5 := blk_cell (o := 5) HX1.out rfl
 have xl := blk_lt HX1.out
 clear HB0 HX0
 go_cut [5] from 11 to 20 (fun s5 W => ∃ g, s5 = .slice (some ⟨g, 0, none⟩) 2 2 ∧ Hid (W.heap[g]? = some (.cells #[.string ⟨#[109, 97, 100, 101]⟩, .string ⟨#[53]⟩] 9 (0, 0)) ∧ w1.heap.size ≤ g) ∧ Hid (Below w1.heap.size w1 W))
 case first =>
  have hbw : Below w1.heap.size w1 w1.drew := (Below.refl _ _).drew
  go_region_with (first | (go_at_call 87; refine (CF.out _).mono ?_; rintro e w9 ⟨B, rfl, ⟨hF, hF2⟩, hb⟩; have hbw := bStep hbw hb; have z0 := cell_step x0 hbw; have z1 := cell_step x1 hbw; have zl := Nat.lt_of_lt_of_le xl hbw.size) | (go_at_call 88; refine (C5.out _ (bStep HB1.out hbw)).mono ?_; rintro e w9 ⟨rfl, hb⟩; (try have hF := cell_step hF hb); (try have hF2 := Nat.lt_of_lt_of_le hF2 hb.size); have hbw := bStep hbw hb; have z0 := cell_step x0 hbw; have z1 := cell_step x1 hbw; have zl := Nat.lt_of_lt_of_le xl hbw.size))
  all_goals
   go_wp2_with fail
   go_meet
   exact ⟨_, rfl, ⟨blk_new _ _, hbw.size⟩, bStep hbw (bAlloc (Below.refl _ _) _)⟩
 case rest =>
  obtain ⟨g, rfl, HG1, HW4⟩ := hcut
  have HO2 : Hid (wc.ownsRow w1.heap.size 9 1 (.slice (some ⟨g, 0, none⟩) 2 2) 2 [.string ⟨#[109, 97, 100, 101]⟩, .string ⟨#[53]⟩]) := ⟨rfl, Or.inr ⟨g, 2, _, rfl, HG1.out.2, HG1.out.1, Nat.le_refl _, by decide, rfl, rfl⟩⟩
  have z0 := cell_step x0 HW4.out
  have zl := Nat.lt_of_lt_of_le xl HW4.out.size
  go_upto_region 8 with fail
  clear z0 zl
  refine region_effs 9 5 [(3, 29), (6, 32), (7, 33), (8, 34)] [(none, []), (none, []), (none, []), (some 0, []), (none, []), (none, []), (some 1, []), (some 2, [0, 1]), (some 3, [2])] [(26, (.slice (some ⟨g, 0, none⟩) 2 2)), (27, (.pointer (some ⟨w.heap.size, 2, none⟩))), (28, (.int .i64 1000)), (30, (.pointer (some ⟨w.heap.size, 3, none⟩))), (31, (.int .i64 2))] (fun bsE vsE W => E8 w1 (.slice (some ⟨g, 0, none⟩) 2 2) [.string ⟨#[109, 97, 100, 101]⟩, .string ⟨#[53]⟩] (.string ⟨#[49, 48, 48, 48]⟩) (.string ⟨#[50]⟩) true (bsE.getD 0 false) (bsE.getD 1 false) (bsE.getD 2 false) (bsE.getD 3 false) false (.slice (some ⟨g, 0, none⟩) 2 2) ((vsE.getD 0 undef)) ((vsE.getD 1 undef)) ((vsE.getD 2 undef)) ((vsE.getD 3 undef)) (.slice (some ⟨g, 0, none⟩) 2 2) W) (by kernel_rfl) (by kernel_rfl) rfl (by kernel_rfl) (by kernel_rfl) (by simp) (by rfl) ?h0 ?each ?tail
  case h0 =>
   intro vsE hlv
   obtain ⟨v0, v1, v2, v3, rfl⟩ := ll4 hlv
   exact ⟨bStep HW4.out (Below.refl _ _).drew, (fun _ => own_step HO2.out (Below.refl _ _).drew), (fun e => by cases e), (fun e => by cases e), (fun e => by cases e), (fun e => by cases e), (fun e => by cases e), (fun _ => rfl), (fun _ => rfl), (fun _ => rfl), (fun _ => rfl), (fun _ => rfl), (fun _ => rfl), (fun e => by cases e)⟩
  case each =>
   simp only [List.take_succ_cons, List.take_zero, AllE]
   refine ⟨⟨26, (.slice (some ⟨g, 0, none⟩) 2 2), rfl, by kernel_rfl, ?_⟩, ⟨27, (.pointer (some ⟨w.heap.size, 2, none⟩)), rfl, by kernel_rfl, ?_⟩, ⟨28, (.int .i64 1000), rfl, by kernel_rfl, ?_⟩, ⟨29, rfl, ?q1_3⟩, ⟨30, (.pointer (some ⟨w.heap.size, 3, none⟩)), rfl, by kernel_rfl, ?_⟩, ⟨31, (.int .i64 2), rfl, by kernel_rfl, ?_⟩, ⟨32, rfl, ?q1_6⟩, ⟨33, rfl, ?q1_7⟩, ⟨34, rfl, ?q1_8⟩, trivial⟩
   case q1_3 =>
    intro bsE vsE W hlb hlv hnd hbk h
    obtain ⟨b0, b1, b2, b3, rfl⟩ := ll4 hlb
    obtain ⟨v0, v1, v2, v3, rfl⟩ := ll4 hlv
    obtain rfl : b0 = false := hbk
    replace h : E8 w1 (.slice (some ⟨g, 0, none⟩) 2 2) [.string ⟨#[109, 97, 100, 101]⟩, .string ⟨#[53]⟩] (.string ⟨#[49, 48, 48, 48]⟩) (.string ⟨#[50]⟩) true false b1 b2 b3 false (.slice (some ⟨g, 0, none⟩) 2 2) (v0) (v1) (v2) (v3) (.slice (some ⟨g, 0, none⟩) 2 2) W := h
    clear hnd
    have HST := Lib.hid h
    skip
    intro K Q hK
    simp only [putE, updAll, Act.put, sl1, sl2, sl3, sl4] at hK ⊢
    go_wp2_with (go_at_call 88; refine (C1.out _ (bStep HB1.out h.p)).mono ?_; rintro en w9 ⟨rfl, hb9⟩)
    all_goals (have hm := h.mk0 hb9)
    all_goals (first | exact hK _ _ hm | exact hm)
   case q1_6 =>
    intro bsE vsE W hlb hlv hnd hbk h
    obtain ⟨b0, b1, b2, b3, rfl⟩ := ll4 hlb
    obtain ⟨v0, v1, v2, v3, rfl⟩ := ll4 hlv
    obtain rfl : b1 = false := hbk
    replace h : E8 w1 (.slice (some ⟨g, 0, none⟩) 2 2) [.string ⟨#[109, 97, 100, 101]⟩, .string ⟨#[53]⟩] (.string ⟨#[49, 48, 48, 48]⟩) (.string ⟨#[50]⟩) true b0 false b2 b3 false (.slice (some ⟨g, 0, none⟩) 2 2) (v0) (v1) (v2) (v3) (.slice (some ⟨g, 0, none⟩) 2 2) W := h
    clear hnd
    have HST := Lib.hid h
    skip
    intro K Q hK
    simp only [putE, updAll, Act.put, sl1, sl2, sl3, sl4] at hK ⊢
    go_wp2_with (go_at_call 88; refine (C2.out _ (bStep HB1.out h.p)).mono ?_; rintro en w9 ⟨rfl, hb9⟩)
    all_goals (have hm := h.mk1 hb9)
    all_goals (first | exact hK _ _ hm | exact hm)
   case q1_7 =>
    intro bsE vsE W hlb hlv hnd hbk h
    obtain ⟨b0, b1, b2, b3, rfl⟩ := ll4 hlb
    obtain ⟨v0, v1, v2, v3, rfl⟩ := ll4 hlv
    obtain rfl : b0 = true := hnd 0 (by simp)
    obtain rfl : b1 = true := hnd 1 (by simp)
    obtain rfl : b2 = false := hbk
    replace h : E8 w1 (.slice (some ⟨g, 0, none⟩) 2 2) [.string ⟨#[109, 97, 100, 101]⟩, .string ⟨#[53]⟩] (.string ⟨#[49, 48, 48, 48]⟩) (.string ⟨#[50]⟩) true true true false b3 false (.slice (some ⟨g, 0, none⟩) 2 2) (v0) (v1) (v2) (v3) (.slice (some ⟨g, 0, none⟩) 2 2) W := h
    clear hnd
    have HST := Lib.hid h
    obtain rfl := h.r0 rfl; obtain rfl := h.r1 rfl; have hm := h.mk2
    intro K Q hK
    simp only [putE, updAll, Act.put, sl1, sl2, sl3, sl4] at hK ⊢
    go_wp2_with fail
    all_goals (first | exact hK _ _ hm | exact hm)
   case q1_8 =>
    intro bsE vsE W hlb hlv hnd hbk h
    obtain ⟨b0, b1, b2, b3, rfl⟩ := ll4 hlb
    obtain ⟨v0, v1, v2, v3, rfl⟩ := ll4 hlv
    obtain rfl : b2 = true := hnd 2 (by simp)
    obtain rfl : b3 = false := hbk
    replace h : E8 w1 (.slice (some ⟨g, 0, none⟩) 2 2) [.string ⟨#[109, 97, 100, 101]⟩, .string ⟨#[53]⟩] (.string ⟨#[49, 48, 48, 48]⟩) (.string ⟨#[50]⟩) true b0 b1 true false false (.slice (some ⟨g, 0, none⟩) 2 2) (v0) (v1) (v2) (v3) (.slice (some ⟨g, 0, none⟩) 2 2) W := h
    clear hnd
    have HST := Lib.hid h
    skip
    intro K Q hK
    simp only [putE, updAll, Act.put, sl1, sl2, sl3, sl4] at hK ⊢
    exact h.app rfl rfl rfl (.tmp 26) (.tmp 33) rfl rfl rfl hK
   all_goals
    intro bsE vsE W hlb hlv hnd h
    obtain ⟨b0, b1, b2, b3, rfl⟩ := ll4 hlb
    obtain ⟨v0, v1, v2, v3, rfl⟩ := ll4 hlv
    replace h : E8 w1 (.slice (some ⟨g, 0, none⟩) 2 2) [.string ⟨#[109, 97, 100, 101]⟩, .string ⟨#[53]⟩] (.string ⟨#[49, 48, 48, 48]⟩) (.string ⟨#[50]⟩) true b0 b1 b2 b3 false (.slice (some ⟨g, 0, none⟩) 2 2) (v0) (v1) (v2) (v3) (.slice (some ⟨g, 0, none⟩) 2 2) W := h
    clear hnd
    have HST := Lib.hid h
    have z2 := cell_step x2 h.p; have z3 := cell_step x3 h.p; have zl := Nat.lt_of_lt_of_le xl h.p.size
    intro K Q hK
    simp only [putE, updAll, Act.put, sl1, sl2, sl3, sl4] at hK ⊢
    go_wp2_with (fail)
    all_goals (first | exact hK _ h | exact h)
  case tail =>
   intro vsE W hlv h
   obtain ⟨v0, v1, v2, v3, rfl⟩ := ll4 hlv
   replace h : E8 w1 (.slice (some ⟨g, 0, none⟩) 2 2) [.string ⟨#[109, 97, 100, 101]⟩, .string ⟨#[53]⟩] (.string ⟨#[49, 48, 48, 48]⟩) (.string ⟨#[50]⟩) true true true true true false (.slice (some ⟨g, 0, none⟩) 2 2) (v0) (v1) (v2) (v3) (.slice (some ⟨g, 0, none⟩) 2 2) W := h
   have HST := Lib.hid h
   have hO4 : W.ownsRow w1.heap.size 9 1 v3 4 ([.string ⟨#[109, 97, 100, 101]⟩, .string ⟨#[53]⟩] ++ [(.string ⟨#[49, 48, 48, 48]⟩), (.string ⟨#[50]⟩)]) := h.z rfl
   obtain ⟨a4, c4, e4⟩ := row_sl8 hO4
   subst e4
   have HO4 := Lib.hid hO4
   have HW8 := Lib.hid h.p
   have z4 := cell_step x4 HW8.out
   have z5 := cell_step x5 HW8.out
   have zl := Nat.lt_of_lt_of_le xl HW8.out.size
   obtain ⟨i0, hi, hz0, hz1, hz2⟩ := info_parts infoS'
   clear h HST hO4
   refine wpOp_plain rfl rfl ?_
   simp only [putE, updAll, Act.put, sl1, sl2, sl3, sl4]
   go_upto_region 12 with fail
   go_upto_region 13 with (at_builtin; refine wpList_app _ rfl (.tmp 44) (.tmp 49) 47 rfl w1.heap.size 9 i0 (.string ⟨#[]⟩) 1 16 Tryz.underlying47 hi hz0 hz1 hz2 rfl (by decide) _ 4 _ rfl (own_step HO4.out (bAlloc (Below.refl _ _) (.cells #[.string ⟨#[98, 49]⟩, .string ⟨#[]⟩] 9))) (some ⟨W.heap.size, 0, none⟩) 2 2 [.string ⟨#[98, 49]⟩, .string ⟨#[]⟩] rfl rfl new_cells1 str2_one (by unfold maxLen; omega) (by omega) (by have := HW8.out.size; simp; omega) ?_; intro v' w5 hown hgrow hat; have hb5 : Below w1.heap.size w1 w5 := (bStep HW8.out (bAlloc (Below.refl _ _) (.cells #[.string ⟨#[98, 49]⟩, .string ⟨#[]⟩] 9))).grown hgrow (by have := HW8.out.size; simp; omega) (fun k hk => (World.ownsRow.lt HO4.out k hk).1); have hO6 : w5.ownsRow w1.heap.size 9 1 v' 6 (([⟨#[109, 97, 100, 101]⟩, ⟨#[53]⟩, ⟨#[49, 48, 48, 48]⟩, ⟨#[50]⟩, ⟨#[98, 49]⟩, ⟨#[]⟩] : List ByteArray).map Value.string) := hown; obtain ⟨a6, c6, e6⟩ := row_sl8 hO6; subst e6; have CD0 := del_empty (l := [⟨#[109, 97, 100, 101]⟩, ⟨#[53]⟩, ⟨#[49, 48, 48, 48]⟩, ⟨#[50]⟩, ⟨#[98, 49]⟩, ⟨#[]⟩]) hO6 (by simp) hb5.size (by simp); rw [full_ex] at CD0; have CD := Lib.hid CD0; clear CD0; have HB5 := Lib.hid hb5; clear hown hgrow hat hb5 hO6)
   clear CK C5 C1 C2 CF z4 z5 zl
   go_wp2_with (first | (go_at_call 90; refine CD.out.mono ?_; rintro e w6 ⟨b6, c7, rfl, hcp, hlt, hcs, hb6⟩; have CJ := Lib.hid (join_any b6 0 c7 [⟨#[109, 97, 100, 101]⟩, ⟨#[53]⟩, ⟨#[49, 48, 48, 48]⟩, ⟨#[50]⟩, ⟨#[98, 49]⟩] ⟨#[32]⟩ w6 (fun j x hx => by rw [Nat.zero_add]; exact hcs j x hx) hlt (by simp) hcp join_len); rw [join_ex] at CJ; have HB6 := Lib.hid (HB5.out.trans hb6); clear hcs hcp hlt hb6) | (go_at_call 89; refine CJ.out.mono ?_; rintro e w7 ⟨rfl, hb7⟩))
   exact bodyPost_ret (v := .tuple #[.string ⟨#[109, 97, 100, 101, 32, 53, 32, 49, 48, 48, 48, 32, 50, 32, 98, 49]⟩, .int .i64 0]) (by simp only [results, Tryz.results37]; go_simp) rfl ⟨rfl, bStep HB1.out (bStep HB6.out hb7)⟩
end Go.Proofs.YtmpilgkfbibhlaaGreatDoor
