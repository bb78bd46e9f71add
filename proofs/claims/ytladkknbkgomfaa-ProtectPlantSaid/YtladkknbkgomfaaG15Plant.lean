/-
  Plants: the program's Show.
-/
import Derived.Test.YtladkknbkgomfaaG14Plant
set_option linter.unusedSimpArgs false
set_option linter.unusedVariables false
namespace Go.Proofs.Ytladkknbkgomfaa
open Go.RowKit Mr
/-- The region that makes the signals. -/
structure S5 (w3 : World) (g0 : Nat → Value) (b0 b1 : Bool) (v0 : Value) (W : World) : Prop where
  bel : Below w3.heap.size w3 W
  bx : b0 = true → ∃ r, v0 = .pointer (some ⟨r, 0, none⟩) ∧ w3.heap.size ≤ r ∧ W.heap[r]? = some (fO 31 (if b1 = true then g0 else zS) 52)
  i1 : b1 = true → b0 = true
section
variable {w3 W : World} {g0 : Nat → Value} {b0 b1 : Bool} {v0 : Value}
theorem S5.mk0 (h : S5 w3 g0 false b1 v0 W) : S5 w3 g0 true b1 (.pointer (some ⟨W.heap.size, 0, none⟩)) (W.alloc (.cells (fA 31 zS) 52)) := by
  cases b1 with
  | true => exact absurd (h.i1 rfl) (by decide)
  | false => exact ⟨bStep h.bel bAl, fun _ => ⟨_, rfl, h.bel.size, blk_new W _⟩, fun e => by cases e⟩
theorem S5.mk1 {r : Nat} (h : S5 w3 g0 true false v0 W) (h1 : w3.heap.size ≤ r) (h2 : W.heap[r]? = some (fO 31 (if false = true then g0 else zS) 52)) : S5 w3 g0 true true (.pointer (some ⟨r, 0, none⟩)) (W.setCells r 0 (fA 31 g0).toList) :=
  ⟨bSetCells _ _ h.bel h1, fun _ => ⟨r, rfl, h1, (fb_sets_all h2 (by rw [fA_list]; simp)).trans (by rw [if_pos rfl]; refine congrArg some (fO_ext fun k hk => ?_); rw [fA_list, List.getD_eq_getElem?_getD, List.getElem?_map, List.getElem?_range hk]; rfl)⟩, fun _ => rfl⟩
end
theorem zS_one {k : Nat} : (zS k).oneCell' = true := by
  unfold zS
  repeat' split
  all_goals rfl
theorem rF_one {l : List Brk} {t : Tru} {sh : T3} {bk : Nat → Bool} {i k : Nat} : (rF l t sh bk i k).oneCell' = true := by
  unfold rF chV zS
  repeat' split
  all_goals rfl
set_option maxHeartbeats 4000000 in
set_option maxRecDepth 20000 in
theorem Show_no {N M P : Nat} {l : List Brk} {D : List T3} {lag : Nat} {sh : T3} {fi : Bool} {wp : Nat → Option Nat} {w : World} (h : PlAt N M P l D lag sh fi wp w) (t : Tru) (hok : okTru t = false) : Calls Try.prog 12 #[.pointer (some ⟨P, 0, none⟩), .agg (truC t).toArray] w fun e w' => e = .returned (.tuple #[.agg (fA 31 zS), .int .i64 2]) ∧ Below w.heap.size w w' := by
  obtain ⟨wB, hwB⟩ : ∃ wB, wB = (w.alloc (.cells (truC t).toArray 38)).alloc (.cells (fA 31 zS) 52) := ⟨_, rfl⟩
  have HPB : Hid (PlAt N M P l D lag sh fi wp wB) := by rw [hwB]; exact (h.step bAl).step bAl
  have HTB : Hid (wB.heap[w.heap.size]? = some (.cells (truC t).toArray 38 (0, 0))) := by rw [hwB]; exact blk_step (blk_new w _) bAl
  have HRB : Hid (wB.heap[w.heap.size + 1]? = some (fO 31 zS 52)) := by
    have h9 := blk_new (w.alloc (.cells (truC t).toArray 38)) (.cells (fA 31 zS) 52)
    rw [show (w.alloc (.cells (truC t).toArray 38)).heap.size = w.heap.size + 1 by simp, ← hwB] at h9
    exact h9
  have HBB : Hid (Below w.heap.size w wB) := by rw [hwB]; exact bAlloc bAl _
  have HZB : Hid (wB.heap.size = w.heap.size + 2) := by rw [hwB]; simp [Hid]
  have HTR : Hid (wB.rangeAt w.heap.size 0 (truC t)) := fun j v hj => blk_cell HTB.out (by rw [Nat.zero_add, List.getElem?_toArray]; exact hj)
  have CV := Lib.hid (pvalid HPB.out)
  have CP := Lib.hid (fun W => possible_any t W)
  rw [hok] at CP
  have HE := Lib.hid hwB
  clear h hwB
  go_enter Try.func12, Try.ntmps12
  go_upto_region 1 with fail
  rw [zS_eq, ← HE.out]
  go_upto_region 4 with (first | (go_at_call 23; refine CV.out.mono ?_; rintro e w2 ⟨rfl, hw⟩; have hw2 := hw.symm; clear hw; subst hw2) | (refine wpList_load_mid rfl 38 (.tmp 3) rfl w.heap.size 0 rfl (truC t) _ HTR.out Try.underlying38 rfl trSize ?_) | (go_at_call 26; refine (CP.out _).mono ?_; rintro e w3 ⟨rfl, hb3⟩; have HB3 := Lib.hid hb3; clear hb3))
  have HR3 := Lib.hid (blk_step HRB.out HB3.out)
  have HBW := Lib.hid (bStep HBB.out HB3.out)
  have HB4 : Hid (Below w.heap.size w (w3.setCells (w.heap.size + 1) 0 (#[.bool false, .int .i64 0, .int .i64 0, .int .i64 0, .int .i64 0, .int .i64 0, .bool false, .int .i64 0, .int .i64 0, .int .i64 0, .int .i64 0, .int .i64 0, .bool false, .int .i64 0, .int .i64 0, .int .i64 0, .int .i64 0, .int .i64 0, .bool false, .bool false, .bool false, .bool false, .bool false, .bool false, .bool false, .bool false, .bool false, .int .i64 0, .int .i64 0, .bool false, .bool false] : Array Value).toList)) := bSetCells _ _ HBW.out (by omega)
  have HR4 : Hid ((w3.setCells (w.heap.size + 1) 0 (#[.bool false, .int .i64 0, .int .i64 0, .int .i64 0, .int .i64 0, .int .i64 0, .bool false, .int .i64 0, .int .i64 0, .int .i64 0, .int .i64 0, .int .i64 0, .bool false, .int .i64 0, .int .i64 0, .int .i64 0, .int .i64 0, .int .i64 0, .bool false, .bool false, .bool false, .bool false, .bool false, .bool false, .bool false, .bool false, .bool false, .int .i64 0, .int .i64 0, .bool false, .bool false] : Array Value).toList).heap[w.heap.size + 1]? = some (fO 31 zS 52)) := (fb_sets_all HR3.out rfl).trans (by refine congrArg some (fO_ext fun k hk => ?_); rw [zS_eq, fA_list, List.getD_eq_getElem?_getD, List.getElem?_map, List.getElem?_range hk]; rfl)
  go_wp2_with (refine wpList_store_mid rfl 52 (.tmp 4) (.tmp 19) rfl (w.heap.size + 1) 0 #[.bool false, .int .i64 0, .int .i64 0, .int .i64 0, .int .i64 0, .int .i64 0, .bool false, .int .i64 0, .int .i64 0, .int .i64 0, .int .i64 0, .int .i64 0, .bool false, .int .i64 0, .int .i64 0, .int .i64 0, .int .i64 0, .int .i64 0, .bool false, .bool false, .bool false, .bool false, .bool false, .bool false, .bool false, .bool false, .bool false, .int .i64 0, .int .i64 0, .bool false, .bool false] rfl rfl (fb_there HR3.out) sgSize (by rw [zS_eq]; exact fA_one fun k _ => zS_one) ?_)
  exact bodyPost_ret (v := .tuple #[.agg (fA 31 zS), .int .i64 2]) (res_cell Try.results12 rfl (sgLoad HR4.out) rfl) rfl ⟨rfl, HB4.out⟩
set_option maxHeartbeats 4000000 in
set_option maxRecDepth 20000 in
theorem Show_yes {N M P : Nat} {l : List Brk} {D : List T3} {lag : Nat} {sh : T3} {fi : Bool} {wp : Nat → Option Nat} {w : World} (h : PlAt N M P l D lag sh fi wp w) (t : Tru) (hok : okTru t = true) : Calls Try.prog 12 #[.pointer (some ⟨P, 0, none⟩), .agg (truC t).toArray] w fun e w' => e = .returned (.tuple #[.agg (fA 31 (sgF l t sh)), .int .i64 0]) ∧ Below w.heap.size w w' := by
  obtain ⟨wB, hwB⟩ : ∃ wB, wB = (w.alloc (.cells (truC t).toArray 38)).alloc (.cells (fA 31 zS) 52) := ⟨_, rfl⟩
  have HPB : Hid (PlAt N M P l D lag sh fi wp wB) := by rw [hwB]; exact (h.step bAl).step bAl
  have HTB : Hid (wB.heap[w.heap.size]? = some (.cells (truC t).toArray 38 (0, 0))) := by rw [hwB]; exact blk_step (blk_new w _) bAl
  have HRB : Hid (wB.heap[w.heap.size + 1]? = some (fO 31 zS 52)) := by
    have h9 := blk_new (w.alloc (.cells (truC t).toArray 38)) (.cells (fA 31 zS) 52)
    rw [show (w.alloc (.cells (truC t).toArray 38)).heap.size = w.heap.size + 1 by simp, ← hwB] at h9
    exact h9
  have HBB : Hid (Below w.heap.size w wB) := by rw [hwB]; exact bAlloc bAl _
  have HZB : Hid (wB.heap.size = w.heap.size + 2) := by rw [hwB]; simp [Hid]
  have HTR : Hid (wB.rangeAt w.heap.size 0 (truC t)) := fun j v hj => blk_cell HTB.out (by rw [Nat.zero_add, List.getElem?_toArray]; exact hj)
  have CV := Lib.hid (pvalid HPB.out)
  have CP := Lib.hid (fun W => possible_any t W)
  have HBD := Lib.hid (fun (q i : Nat) (hq : q < 5) (hi : i < 3) => okTru_bd hok hq hi)
  rw [hok] at CP
  have HE := Lib.hid hwB
  clear h hwB hok
  go_enter Try.func12, Try.ntmps12
  go_upto_region 1 with fail
  rw [zS_eq, ← HE.out]
  go_upto_region 5 with (first | (go_at_call 23; refine CV.out.mono ?_; rintro e w2 ⟨rfl, hw⟩; have hw2 := hw.symm; clear hw; subst hw2) | (refine wpList_load_mid rfl 38 (.tmp 3) rfl w.heap.size 0 rfl (truC t) _ HTR.out Try.underlying38 rfl trSize ?_) | (go_at_call 26; refine (CP.out _).mono ?_; rintro e w3 ⟨rfl, hb3⟩; have HB3 := Lib.hid hb3; clear hb3))
  have HR3 := Lib.hid (blk_step HRB.out HB3.out)
  have HT3 := Lib.hid (blk_step HTB.out HB3.out)
  have HP3 := Lib.hid (HPB.out.step HB3.out)
  have HBW := Lib.hid (bStep HBB.out HB3.out)
  have HZ3 := Lib.hid (Nat.le_trans (Nat.le_of_eq HZB.out.symm) HB3.out.size)
  clear HPB HTB HRB HBB HZB HTR CV CP HE HB3
  generalize hB : w.heap.size = B at *
  refine region_all 16 16 131 [(14, 6), (15, 132)] [(none, []), (none, []), (none, []), (none, []), (none, []), (none, []), (none, []), (none, []), (none, []), (none, []), (none, []), (none, []), (none, []), (none, []), (some 0, []), (some 1, [0])] [(20, (.pointer (some ⟨B, 27, none⟩))), (21, (.int .i64 t.link)), (22, (.pointer (some ⟨B, 28, none⟩))), (23, (.int .i64 t.pack)), (24, (.pointer (some ⟨B, 29, none⟩))), (25, (.bool t.want)), (26, (.pointer (some ⟨B, 30, none⟩))), (27, (.bool t.rs)), (28, (.pointer (some ⟨P, 0, none⟩))), (29, (.pointer (some ⟨P, 0, none⟩))), (30, (.pointer (some ⟨P, 2, none⟩))), (31, (.pointer (some ⟨P, 73, none⟩))), (32, (.agg #[.bool sh.1, .bool sh.2.1, .bool sh.2.2])), (33, (.agg #[.bool false, .int .i64 0, .int .i64 0, .int .i64 0, .int .i64 0, .int .i64 0, .bool false, .int .i64 0, .int .i64 0, .int .i64 0, .int .i64 0, .int .i64 0, .bool false, .int .i64 0, .int .i64 0, .int .i64 0, .int .i64 0, .int .i64 0, .bool false, .bool false, .bool false, .bool false, .bool false, .bool false, .bool sh.1, .bool sh.2.1, .bool sh.2.2, .int .i64 t.link, .int .i64 t.pack, .bool t.want, .bool t.rs]))] (fun bsE vsE W => S5 w3 (rF l t sh (at3 sh) 0) (bsE.getD 0 false) (bsE.getD 1 false) ((vsE.getD 0 undef)) W) (by kernel_rfl) (by kernel_rfl) rfl rfl (by kernel_rfl) (by rfl) ?h0 ?each ?done
  case h0 =>
    intro vsE hlv
    obtain ⟨v0, vsE0, rfl, hlv0⟩ := len_one hlv
    obtain ⟨v1, vsE1, rfl, hlv1⟩ := len_one hlv0
    obtain rfl := len_nil hlv1
    exact ⟨(Below.refl _ _).drew, (fun e => by cases e), (fun e => by cases e)⟩
  case each =>
    simp only [AllE]
    refine ⟨⟨20, (.pointer (some ⟨B, 27, none⟩)), rfl, by kernel_rfl, ?_⟩, ⟨21, (.int .i64 t.link), rfl, by kernel_rfl, ?_⟩, ⟨22, (.pointer (some ⟨B, 28, none⟩)), rfl, by kernel_rfl, ?_⟩, ⟨23, (.int .i64 t.pack), rfl, by kernel_rfl, ?_⟩, ⟨24, (.pointer (some ⟨B, 29, none⟩)), rfl, by kernel_rfl, ?_⟩, ⟨25, (.bool t.want), rfl, by kernel_rfl, ?_⟩, ⟨26, (.pointer (some ⟨B, 30, none⟩)), rfl, by kernel_rfl, ?_⟩, ⟨27, (.bool t.rs), rfl, by kernel_rfl, ?_⟩, ⟨28, (.pointer (some ⟨P, 0, none⟩)), rfl, by kernel_rfl, ?_⟩, ⟨29, (.pointer (some ⟨P, 0, none⟩)), rfl, by kernel_rfl, ?_⟩, ⟨30, (.pointer (some ⟨P, 2, none⟩)), rfl, by kernel_rfl, ?_⟩, ⟨31, (.pointer (some ⟨P, 73, none⟩)), rfl, by kernel_rfl, ?_⟩, ⟨32, (.agg #[.bool sh.1, .bool sh.2.1, .bool sh.2.2]), rfl, by kernel_rfl, ?_⟩, ⟨33, (.agg #[.bool false, .int .i64 0, .int .i64 0, .int .i64 0, .int .i64 0, .int .i64 0, .bool false, .int .i64 0, .int .i64 0, .int .i64 0, .int .i64 0, .int .i64 0, .bool false, .int .i64 0, .int .i64 0, .int .i64 0, .int .i64 0, .int .i64 0, .bool false, .bool false, .bool false, .bool false, .bool false, .bool false, .bool sh.1, .bool sh.2.1, .bool sh.2.2, .int .i64 t.link, .int .i64 t.pack, .bool t.want, .bool t.rs]), rfl, by kernel_rfl, ?_⟩, Or.inl ⟨6, rfl, ?q5_14⟩, Or.inr ⟨rfl, ?q5_15⟩, trivial⟩
    case q5_14 =>
      intro bsE vsE W hlb hlv hnd hbk h
      obtain ⟨b0, bsE0, rfl, hlb0⟩ := len_one hlb
      obtain ⟨v0, vsE0, rfl, hlv0⟩ := len_one hlv
      obtain ⟨b1, bsE1, rfl, hlb1⟩ := len_one hlb0
      obtain ⟨v1, vsE1, rfl, hlv1⟩ := len_one hlv0
      obtain rfl := len_nil hlb1
      obtain rfl := len_nil hlv1
      obtain rfl : b0 = false := hbk
      replace h : S5 w3 (rF l t sh (at3 sh) 0) false b1 (v0) W := h
      clear hnd
      have HST := Lib.hid h
      skip
      intro K Q hK
      simp only [putE, updAll, Act.put, List.setIfInBounds_toArray, List.set_cons_zero, List.set_cons_succ, List.set_nil] at hK ⊢
      go_wp2_with fail
      all_goals (first | exact hK _ _ h.mk0 | exact h.mk0)
    case q5_15 =>
      intro bsE vsE W hlb hlv hnd hbk h
      obtain ⟨b0, bsE0, rfl, hlb0⟩ := len_one hlb
      obtain ⟨v0, vsE0, rfl, hlv0⟩ := len_one hlv
      obtain ⟨b1, bsE1, rfl, hlb1⟩ := len_one hlb0
      obtain ⟨v1, vsE1, rfl, hlv1⟩ := len_one hlv0
      obtain rfl := len_nil hlb1
      obtain rfl := len_nil hlv1
      obtain rfl : b0 = true := hnd 0 (by simp)
      obtain rfl : b1 = false := hbk
      replace h : S5 w3 (rF l t sh (at3 sh) 0) true false (v0) W := h
      clear hnd
      have HST := Lib.hid h
      obtain ⟨r, er, hr1, hr2⟩ := h.bx rfl; subst er; have hm := h.mk1 hr1 hr2
      intro K Q hK
      simp only [putE, updAll, Act.put, List.setIfInBounds_toArray, List.set_cons_zero, List.set_cons_succ, List.set_nil] at hK ⊢
      refine wp_store_mid 52 (.tmp 6) (.tmp 33) rfl r 0 (fA 31 (rF l t sh (at3 sh) 0)) rfl rfl (fb_there hr2) (by rw [fA_size]; exact sgSize) (fA_one fun k _ => rF_one) ?_
      first | exact hK _ hm | exact hm
    all_goals
      intro bsE vsE W hlb hlv hnd h
      obtain ⟨b0, bsE0, rfl, hlb0⟩ := len_one hlb
      obtain ⟨v0, vsE0, rfl, hlv0⟩ := len_one hlv
      obtain ⟨b1, bsE1, rfl, hlb1⟩ := len_one hlb0
      obtain ⟨v1, vsE1, rfl, hlv1⟩ := len_one hlv0
      obtain rfl := len_nil hlb1
      obtain rfl := len_nil hlv1
      replace h : S5 w3 (rF l t sh (at3 sh) 0) b0 b1 (v0) W := h
      clear hnd
      have HST := Lib.hid h
      have ht := blk_step HT3.out h.bel; have lB := blk_lt ht; have x27 : W.cell? ⟨B, 27, none⟩ = some (.int .i64 t.link) := blk_cell ht rfl; have x28 : W.cell? ⟨B, 28, none⟩ = some (.int .i64 t.pack) := blk_cell ht rfl; have x29 : W.cell? ⟨B, 29, none⟩ = some (.bool t.want) := blk_cell ht rfl; have x30 : W.cell? ⟨B, 30, none⟩ = some (.bool t.rs) := blk_cell ht rfl; have hp := HP3.out.step h.bel; have lP := hp.lt; have y0 : W.cell? ⟨P, 73, none⟩ = some (.bool sh.1) := hp.cell (show 73 < 88 by decide); have y1 : W.cell? ⟨P, 74, none⟩ = some (.bool sh.2.1) := hp.cell (show 74 < 88 by decide); have y2 : W.cell? ⟨P, 75, none⟩ = some (.bool sh.2.2) := hp.cell (show 75 < 88 by decide)
      intro K Q hK
      simp only [putE, updAll, Act.put, List.setIfInBounds_toArray, List.set_cons_zero, List.set_cons_succ, List.set_nil] at hK ⊢
      go_wp2_with (fail)
      all_goals (first | exact hK _ h | exact h)
  case done =>
    intro vsE W hlv h
    obtain ⟨v0, vsE0, rfl, hlv0⟩ := len_one hlv
    obtain ⟨v1, vsE1, rfl, hlv1⟩ := len_one hlv0
    obtain rfl := len_nil hlv1
    replace h : S5 w3 (rF l t sh (at3 sh) 0) true true (v0) W := h
    have HST := Lib.hid h
    have HS := Lib.hid h
    clear h HST
    simp only [putE, updAll, Act.put, List.setIfInBounds_toArray, List.set_cons_zero, List.set_cons_succ, List.set_nil]
    obtain ⟨S, er, hr1, hr2⟩ := HS.out.bx rfl
    subst er
    rw [if_pos rfl] at hr2
    have HSS : Hid (SS w3 S (rF l t sh (at3 sh) 0) W) := ⟨HS.out.bel, hr1, hr2⟩
    clear hr1 hr2 HS hlv hlv0 hlv1
    go_wp2_with fail
    go_loopw [34] (fun ix wr => ∃ i : Nat, i ≤ 3 ∧ ix = .int .i64 i ∧ Hid (SS w3 S (rF l t sh (at3 sh) i) wr)) (fun ix _ => 3 - (intOf ix).toNat)
    case atStart => exact ⟨0, by omega, rfl, HSS⟩
    case round =>
      obtain ⟨i, hi, rfl, HS⟩ := hrel
      clear HSS
      by_cases hc : i < 3
      · have c1 : (i : Int) < 3 := by omega
        have c0 : (0 : Int) ≤ i := by omega
        go_upto_region 9 with fail
        refine region_all 12 16 131 [(8, 131), (11, 132)] [(none, []), (none, []), (none, []), (none, []), (none, []), (none, []), (none, []), (none, []), (some 0, []), (none, []), (none, []), (some 1, [])] [(37, (.int .i64 (i : Int))), (38, (.int .i64 (i : Int))), (39, (.pointer (some ⟨B, 25, none⟩))), (40, (.bool t.cr)), (41, (.pointer (some ⟨B, 26, none⟩))), (42, (.bool t.wa)), (43, (.pointer (some ⟨S, 18, none⟩))), (44, (.pointer (some ⟨S, 18 + i, none⟩))), (45, (.pointer (some ⟨S, 21, none⟩))), (46, (.pointer (some ⟨S, 21 + i, none⟩)))] (fun bsE vsE W => SS w3 S (updB (bsE.getD 1 false) (updB (bsE.getD 0 false) (rF l t sh (at3 sh) i) (18 + i) (.bool t.cr)) (21 + i) (.bool t.wa)) W) (by kernel_rfl) (by kernel_rfl) rfl rfl (by kernel_rfl) (by rfl) ?h0 ?each ?done
        case h0 =>
          intro vsE hlv
          obtain ⟨v0, vsE0, rfl, hlv0⟩ := len_one hlv
          obtain ⟨v1, vsE1, rfl, hlv1⟩ := len_one hlv0
          obtain rfl := len_nil hlv1
          exact HS.out.step (Below.refl _ _).drew
        case each =>
          simp only [AllE]
          refine ⟨⟨37, (.int .i64 (i : Int)), rfl, by kernel_rfl, ?_⟩, ⟨38, (.int .i64 (i : Int)), rfl, by kernel_rfl, ?_⟩, ⟨39, (.pointer (some ⟨B, 25, none⟩)), rfl, by kernel_rfl, ?_⟩, ⟨40, (.bool t.cr), rfl, by kernel_rfl, ?_⟩, ⟨41, (.pointer (some ⟨B, 26, none⟩)), rfl, by kernel_rfl, ?_⟩, ⟨42, (.bool t.wa), rfl, by kernel_rfl, ?_⟩, ⟨43, (.pointer (some ⟨S, 18, none⟩)), rfl, by kernel_rfl, ?_⟩, ⟨44, (.pointer (some ⟨S, 18 + i, none⟩)), rfl, by kernel_rfl, ?_⟩, Or.inr ⟨rfl, ?q4_8⟩, ⟨45, (.pointer (some ⟨S, 21, none⟩)), rfl, by kernel_rfl, ?_⟩, ⟨46, (.pointer (some ⟨S, 21 + i, none⟩)), rfl, by kernel_rfl, ?_⟩, Or.inr ⟨rfl, ?q4_11⟩, trivial⟩
          case q4_8 =>
            intro bsE vsE W hlb hlv hnd hbk h
            obtain ⟨b0, bsE0, rfl, hlb0⟩ := len_one hlb
            obtain ⟨v0, vsE0, rfl, hlv0⟩ := len_one hlv
            obtain ⟨b1, bsE1, rfl, hlb1⟩ := len_one hlb0
            obtain ⟨v1, vsE1, rfl, hlv1⟩ := len_one hlv0
            obtain rfl := len_nil hlb1
            obtain rfl := len_nil hlv1
            obtain rfl : b0 = false := hbk
            replace h : SS w3 S (updB b1 (updB false (rF l t sh (at3 sh) i) (18 + i) (.bool t.cr)) (21 + i) (.bool t.wa)) W := h
            clear hnd
            have HST := Lib.hid h
            have z0 := fb_cell h.fb (show 18 + i < 31 by omega); have z1 : W.frozen? ⟨S, 18 + i, none⟩ = false := fb_free h.fb; have hm := h.put0 (by omega)
            intro K Q hK
            simp only [putE, updAll, Act.put, List.setIfInBounds_toArray, List.set_cons_zero, List.set_cons_succ, List.set_nil] at hK ⊢
            go_wp2_with fail
            all_goals (first | exact hK _ hm | exact hm)
          case q4_11 =>
            intro bsE vsE W hlb hlv hnd hbk h
            obtain ⟨b0, bsE0, rfl, hlb0⟩ := len_one hlb
            obtain ⟨v0, vsE0, rfl, hlv0⟩ := len_one hlv
            obtain ⟨b1, bsE1, rfl, hlb1⟩ := len_one hlb0
            obtain ⟨v1, vsE1, rfl, hlv1⟩ := len_one hlv0
            obtain rfl := len_nil hlb1
            obtain rfl := len_nil hlv1
            obtain rfl : b1 = false := hbk
            replace h : SS w3 S (updB false (updB b0 (rF l t sh (at3 sh) i) (18 + i) (.bool t.cr)) (21 + i) (.bool t.wa)) W := h
            clear hnd
            have HST := Lib.hid h
            have z0 := fb_cell h.fb (show 21 + i < 31 by omega); have z1 : W.frozen? ⟨S, 21 + i, none⟩ = false := fb_free h.fb; have hm := h.put1
            intro K Q hK
            simp only [putE, updAll, Act.put, List.setIfInBounds_toArray, List.set_cons_zero, List.set_cons_succ, List.set_nil] at hK ⊢
            go_wp2_with fail
            all_goals (first | exact hK _ hm | exact hm)
          all_goals
            intro bsE vsE W hlb hlv hnd h
            obtain ⟨b0, bsE0, rfl, hlb0⟩ := len_one hlb
            obtain ⟨v0, vsE0, rfl, hlv0⟩ := len_one hlv
            obtain ⟨b1, bsE1, rfl, hlb1⟩ := len_one hlb0
            obtain ⟨v1, vsE1, rfl, hlv1⟩ := len_one hlv0
            obtain rfl := len_nil hlb1
            obtain rfl := len_nil hlv1
            replace h : SS w3 S (updB b1 (updB b0 (rF l t sh (at3 sh) i) (18 + i) (.bool t.cr)) (21 + i) (.bool t.wa)) W := h
            clear hnd
            have HST := Lib.hid h
            have ht := blk_step HT3.out h.bel; have lB := blk_lt ht; have lS := h.lt; have l31 : 18 + i < 31 := (by omega); have m31 : 21 + i < 31 := (by omega); have x25 : W.cell? ⟨B, 25, none⟩ = some (.bool t.cr) := blk_cell ht rfl; have x26 : W.cell? ⟨B, 26, none⟩ = some (.bool t.wa) := blk_cell ht rfl
            intro K Q hK
            simp only [putE, updAll, Act.put, List.setIfInBounds_toArray, List.set_cons_zero, List.set_cons_succ, List.set_nil] at hK ⊢
            go_wp2_with (fail)
            all_goals (first | exact hK _ h | exact h)
        case done =>
          intro vsE W hlv h
          obtain ⟨v0, vsE0, rfl, hlv0⟩ := len_one hlv
          obtain ⟨v1, vsE1, rfl, hlv1⟩ := len_one hlv0
          obtain rfl := len_nil hlv1
          replace h : SS w3 S (updB true (updB true (rF l t sh (at3 sh) i) (18 + i) (.bool t.cr)) (21 + i) (.bool t.wa)) W := h
          have HST := Lib.hid h
          have HS9 := Lib.hid h
          clear h HST
          simp only [putE, updAll, Act.put, List.setIfInBounds_toArray, List.set_cons_zero, List.set_cons_succ, List.set_nil]
          have HW0 : Hid (SS w3 S (updF (updF (rF l t sh (at3 sh) i) (18 + i) (.bool t.cr)) (21 + i) (.bool t.wa)) W) := HS9.out
          clear HS9
          have HPW := Lib.hid (HP3.out.step HW0.out.bel)
          have lP := HPW.out.lt
          rcases HP3.out.wire5 hc with ⟨x82, hn5⟩ | ⟨b5, x82, hn5, xb5, lb5⟩
          · have y82 := cell_step x82 HW0.out.bel
            have HW1 := Lib.hid HW0.out
            rw [w1_no hn5] at HW1
            go_upto_region 13 with fail
            clear HW0 x82 y82 hn5 lP HPW
            have HPW := Lib.hid (HP3.out.step HW1.out.bel)
            have lP := HPW.out.lt
            rcases HPW.out.wire6 hc with ⟨x85, hn6⟩ | ⟨b6, x85, hn6, xb6, lb6⟩
            · go_upto_region 16 with fail
              have HW2 := Lib.hid (HW1.out.ext fun k _ => w2_no hn6 hc)
              clear HW1 hn6 x85 lP HPW
              have HPX := Lib.hid (HP3.out.step HW2.out.bel)
              have lP := HPX.out.lt
              have x76 : W.cell? ⟨P, 76 + i, none⟩ = some (.bool (hasB 2 (i : Int) l).1) := (HPX.out.cell (show 76 + i < 88 by omega)).trans (congrArg some (plF_76 hc))
              cases hm : (hasB 2 (i : Int) l).1 with
              | true =>
                rw [hm] at x76
                have HX2 := Lib.hid (SS.ext (g := rF l t sh (at3 sh) (i + 1)) HW2.out fun k _ => rF_mute hc hm)
                clear hm HW2 HPX
                go_wp2_with fail
                exact ⟨⟨i + 1, by omega, by push_cast; rfl, HX2.out⟩, by simp [intOf]; omega⟩
              | false =>
                rw [hm] at x76
                have HM := Lib.hid hm
                clear hm HPX
                go_upto_region 18 with fail
                clear x76 lP
                refine region_all 10 16 131 [(6, 131), (9, 132)] [(none, []), (none, []), (none, []), (none, []), (none, []), (none, []), (some 0, []), (none, []), (none, []), (some 1, [])] [(93, (.pointer (some ⟨S, i * 6, none⟩))), (94, (.pointer (some ⟨S, i * 6, none⟩))), (95, (.pointer (some ⟨B, 20, none⟩))), (96, (.agg #[.int .i64 (t.n 20), .int .i64 (t.n 21), .int .i64 (t.n 22), .int .i64 (t.n 23), .int .i64 (t.n 24)])), (97, (.pointer (some ⟨S, i * 6, none⟩))), (98, (.pointer (some ⟨S, i * 6, none⟩))), (99, (.pointer (some ⟨S, i * 6, none⟩))), (100, (.pointer (some ⟨S, i * 6 + 1, none⟩)))] (fun bsE vsE W => SS w3 S (liF t i (bsE.getD 1 false) (updB (bsE.getD 0 false) (w2F l t sh i (rF l t sh (at3 sh) i)) (i * 6) (.bool true))) W) (by kernel_rfl) (by kernel_rfl) rfl rfl (by kernel_rfl) (by rfl) ?h0 ?each ?done
                case h0 =>
                  intro vsE hlv
                  obtain ⟨v0, vsE0, rfl, hlv0⟩ := len_one hlv
                  obtain ⟨v1, vsE1, rfl, hlv1⟩ := len_one hlv0
                  obtain rfl := len_nil hlv1
                  exact HW2.out.step (Below.refl _ _).drew
                case each =>
                  simp only [AllE]
                  refine ⟨⟨93, (.pointer (some ⟨S, i * 6, none⟩)), rfl, by kernel_rfl, ?_⟩, ⟨94, (.pointer (some ⟨S, i * 6, none⟩)), rfl, by kernel_rfl, ?_⟩, ⟨95, (.pointer (some ⟨B, 20, none⟩)), rfl, by kernel_rfl, ?_⟩, ⟨96, (.agg #[.int .i64 (t.n 20), .int .i64 (t.n 21), .int .i64 (t.n 22), .int .i64 (t.n 23), .int .i64 (t.n 24)]), rfl, by kernel_rfl, ?_⟩, ⟨97, (.pointer (some ⟨S, i * 6, none⟩)), rfl, by kernel_rfl, ?_⟩, ⟨98, (.pointer (some ⟨S, i * 6, none⟩)), rfl, by kernel_rfl, ?_⟩, Or.inr ⟨rfl, ?q1_6⟩, ⟨99, (.pointer (some ⟨S, i * 6, none⟩)), rfl, by kernel_rfl, ?_⟩, ⟨100, (.pointer (some ⟨S, i * 6 + 1, none⟩)), rfl, by kernel_rfl, ?_⟩, Or.inr ⟨rfl, ?q1_9⟩, trivial⟩
                  case q1_6 =>
                    intro bsE vsE W hlb hlv hnd hbk h
                    obtain ⟨b0, bsE0, rfl, hlb0⟩ := len_one hlb
                    obtain ⟨v0, vsE0, rfl, hlv0⟩ := len_one hlv
                    obtain ⟨b1, bsE1, rfl, hlb1⟩ := len_one hlb0
                    obtain ⟨v1, vsE1, rfl, hlv1⟩ := len_one hlv0
                    obtain rfl := len_nil hlb1
                    obtain rfl := len_nil hlv1
                    obtain rfl : b0 = false := hbk
                    replace h : SS w3 S (liF t i b1 (updB false (w2F l t sh i (rF l t sh (at3 sh) i)) (i * 6) (.bool true))) W := h
                    clear hnd
                    have HST := Lib.hid h
                    have z0 := fb_cell h.fb (show i * 6 < 31 by omega); have z1 : W.frozen? ⟨S, i * 6, none⟩ = false := fb_free h.fb; have hm := h.putA
                    intro K Q hK
                    simp only [putE, updAll, Act.put, List.setIfInBounds_toArray, List.set_cons_zero, List.set_cons_succ, List.set_nil] at hK ⊢
                    go_wp2_with fail
                    all_goals (first | exact hK _ hm | exact hm)
                  case q1_9 =>
                    intro bsE vsE W hlb hlv hnd hbk h
                    obtain ⟨b0, bsE0, rfl, hlb0⟩ := len_one hlb
                    obtain ⟨v0, vsE0, rfl, hlv0⟩ := len_one hlv
                    obtain ⟨b1, bsE1, rfl, hlb1⟩ := len_one hlb0
                    obtain ⟨v1, vsE1, rfl, hlv1⟩ := len_one hlv0
                    obtain rfl := len_nil hlb1
                    obtain rfl := len_nil hlv1
                    obtain rfl : b1 = false := hbk
                    replace h : SS w3 S (liF t i false (updB b0 (w2F l t sh i (rF l t sh (at3 sh) i)) (i * 6) (.bool true))) W := h
                    clear hnd
                    have HST := Lib.hid h
                    have hm := h.putB
                    intro K Q hK
                    simp only [putE, updAll, Act.put, List.setIfInBounds_toArray, List.set_cons_zero, List.set_cons_succ, List.set_nil] at hK ⊢
                    refine wp_store_mid 35 (.tmp 100) (.tmp 96) rfl S (i * 6 + 1) (liL t).toArray rfl rfl (fb_there_mid h.fb (by show i * 6 + 1 + 5 ≤ 31; omega)) size5 (liL_one t) ?_
                    first | exact hK _ hm | exact hm
                  all_goals
                    intro bsE vsE W hlb hlv hnd h
                    obtain ⟨b0, bsE0, rfl, hlb0⟩ := len_one hlb
                    obtain ⟨v0, vsE0, rfl, hlv0⟩ := len_one hlv
                    obtain ⟨b1, bsE1, rfl, hlb1⟩ := len_one hlb0
                    obtain ⟨v1, vsE1, rfl, hlv1⟩ := len_one hlv0
                    obtain rfl := len_nil hlb1
                    obtain rfl := len_nil hlv1
                    replace h : SS w3 S (liF t i b1 (updB b0 (w2F l t sh i (rF l t sh (at3 sh) i)) (i * 6) (.bool true))) W := h
                    clear hnd
                    have HST := Lib.hid h
                    have ht := blk_step HT3.out h.bel; have lB := blk_lt ht; have lS := h.lt; have l31 : 18 + i < 31 := (by omega); have m31 : 21 + i < 31 := (by omega); have x20 : W.cell? ⟨B, 20, none⟩ = some (.int .i64 (t.n 20)) := blk_cell ht rfl; have x21 : W.cell? ⟨B, 21, none⟩ = some (.int .i64 (t.n 21)) := blk_cell ht rfl; have x22 : W.cell? ⟨B, 22, none⟩ = some (.int .i64 (t.n 22)) := blk_cell ht rfl; have x23 : W.cell? ⟨B, 23, none⟩ = some (.int .i64 (t.n 23)) := blk_cell ht rfl; have x24 : W.cell? ⟨B, 24, none⟩ = some (.int .i64 (t.n 24)) := blk_cell ht rfl
                    intro K Q hK
                    simp only [putE, updAll, Act.put, List.setIfInBounds_toArray, List.set_cons_zero, List.set_cons_succ, List.set_nil] at hK ⊢
                    go_wp2_with (fail)
                    all_goals (first | exact hK _ h | exact h)
                case done =>
                  intro vsE W hlv h
                  obtain ⟨v0, vsE0, rfl, hlv0⟩ := len_one hlv
                  obtain ⟨v1, vsE1, rfl, hlv1⟩ := len_one hlv0
                  obtain rfl := len_nil hlv1
                  replace h : SS w3 S (liF t i true (updB true (w2F l t sh i (rF l t sh (at3 sh) i)) (i * 6) (.bool true))) W := h
                  have HST := Lib.hid h
                  have HS9 := Lib.hid h
                  clear h HST
                  simp only [putE, updAll, Act.put, List.setIfInBounds_toArray, List.set_cons_zero, List.set_cons_succ, List.set_nil]
                  have HF : Hid (SS w3 S (f4F l t sh (at3 sh) i) W) := HS9.out
                  clear HS9
                  go_wp2_with fail
                  go_loopw [101] (fun ix wr => ∃ q : Nat, q ≤ 5 ∧ ix = .int .i64 q ∧ Hid (SS w3 S (qF l t i (f4F l t sh (at3 sh) i) q) wr)) (fun ix _ => 5 - (intOf ix).toNat)
                  case atStart => exact ⟨0, by omega, rfl, HF.out.ext fun k _ => qF_0⟩
                  case round =>
                    obtain ⟨q, hq, rfl, HQ⟩ := hrel
                    clear HF
                    by_cases hd : q < 5
                    · have d1 : (q : Int) < 5 := by omega
                      have d0 : (0 : Int) ≤ q := by omega
                      have HPQ := Lib.hid (HP3.out.step HQ.out.bel)
                      have lP := HPQ.out.lt
                      have x79 : wr.cell? ⟨P, 79 + i, none⟩ = some (.bool (hasB 1 (i : Int) l).1) := (HPQ.out.cell (show 79 + i < 88 by omega)).trans (congrArg some (plF_79 hc))
                      cases hl : (hasB 1 (i : Int) l).1 with
                      | true =>
                        rw [hl] at x79
                        have HQ2 := Lib.hid (SS.ext (g := qF l t i (f4F l t sh (at3 sh) i) (q + 1)) HQ.out fun k _ => f4_lie hd hl)
                        clear hl HQ HPQ
                        go_wp2_with fail
                        exact ⟨⟨q + 1, by omega, by push_cast; rfl, HQ2.out⟩, by simp [intOf]; omega⟩
                      | false =>
                        rw [hl] at x79
                        have ht := blk_step HT3.out HQ.out.bel
                        have xq : wr.drew.cell? ⟨B, q, none⟩ = some (.int .i64 (t.n q)) := blk_cell ht ((List.getElem?_toArray ..).trans (truC_n t (by omega)))
                        have xe : wr.drew.cell? ⟨B, 5 + i * 5 + q, none⟩ = some (.int .i64 (t.n (5 + i * 5 + q))) := blk_cell ht ((List.getElem?_toArray ..).trans (truC_n t (by omega)))
                        have lB : B < wr.drew.heap.size := blk_lt ht
                        have lS : S < wr.drew.heap.size := HQ.out.lt
                        have hb := HBD.out q i hd hc
                        have wv : IntKind.i64.wrap (t.n q + t.n (5 + i * 5 + q)) = t.n q + t.n (5 + i * 5 + q) := Go.IntWalk.i64_in _ ⟨by omega, by omega⟩
                        have hv := valC_true (l := l) (t := t) (q := q) hl
                        rw [← hv] at wv
                        have HV := Lib.hid wv
                        generalize hVV : valC l t i q = vv at *
                        have z0 : wr.drew.cell? ⟨S, i * 6 + 1 + q, none⟩ = some _ := fb_cell HQ.out.fb (show i * 6 + 1 + q < 31 by omega)
                        have z1 : wr.drew.frozen? ⟨S, i * 6 + 1 + q, none⟩ = false := fb_free HQ.out.fb
                        have wv2 : IntKind.i64.wrap (t.n q + t.n (5 + i * 5 + q)) = vv := by rw [← hv]; exact HV.out
                        have HVV := Lib.hid hVV
                        clear hb wv hv hVV hl ht HV
                        go_upto_region 23 with fail
                        refine wp_tail_lock 16 (by kernel_rfl) (by kernel_rfl) ?_
                        simp only [List.take_succ_cons, List.take_zero, List.drop_succ_cons, List.drop_zero]
                        iterate 16 (first | ((first | (refine WT.skip rfl rfl rfl ?_) | (refine WT.skipU rfl rfl rfl ?_)); simp only [Act.put, List.setIfInBounds_toArray, List.set_cons_zero, List.set_cons_succ, List.set_nil]) | ((first | (apply WT.val; (exact rfl)) | (apply WT.valg; (exact rfl); (exact rfl); (exact rfl))); (simp [go_sem, xq, xe, lB, lS, wv2, c0, c1, d0, d1]; first | done | exact rfl); simp only [Act.put, List.setIfInBounds_toArray, List.set_cons_zero, List.set_cons_succ, List.set_nil]))
                        refine WT.fin ?_
                        go_wp2_with fail
                        have HQ3 := Lib.hid ((HQ.out.set (i * 6 + 1 + q) (.int .i64 vv)).step (Below.refl _ _).drew)
                        exact ⟨⟨q + 1, by omega, by push_cast; rfl, HQ3.out.ext fun k _ => by rw [← HVV.out]; exact qF_next⟩, by simp [intOf]; omega⟩
                    · obtain rfl : q = 5 := by omega
                      clear hd
                      go_wp2_with fail
                      exact ⟨⟨i + 1, by omega, by push_cast; rfl, HQ.out.ext fun k _ => rF_has hc HM.out f4_hf f4_h0⟩, by simp [intOf]; omega⟩
            · have z0 := fb_cell HW1.out.fb (show 24 + i < 31 by omega)
              have z1 : _ = false := fb_free (k := 24 + i) HW1.out.fb
              have lS := HW1.out.lt
              go_upto_region 16 with fail
              have HW2 := Lib.hid (SS.ext (g := w2F l t sh i (rF l t sh (at3 sh) i)) (HW1.out.set (24 + i) (.bool (hasB 6 (i : Int) l).2)) fun k _ => w2_yes hn6)
              clear HW1 hn6 x85 lP xb6 lb6 z0 z1 lS HPW
              generalize W.setCell ⟨S, 24 + i, none⟩ (.bool (hasB 6 (i : Int) l).2) = W6 at *
              have HPX := Lib.hid (HP3.out.step HW2.out.bel)
              have lP := HPX.out.lt
              have x76 : W6.cell? ⟨P, 76 + i, none⟩ = some (.bool (hasB 2 (i : Int) l).1) := (HPX.out.cell (show 76 + i < 88 by omega)).trans (congrArg some (plF_76 hc))
              cases hm : (hasB 2 (i : Int) l).1 with
              | true =>
                rw [hm] at x76
                have HX2 := Lib.hid (SS.ext (g := rF l t sh (at3 sh) (i + 1)) HW2.out fun k _ => rF_mute hc hm)
                clear hm HW2 HPX
                go_wp2_with fail
                exact ⟨⟨i + 1, by omega, by push_cast; rfl, HX2.out⟩, by simp [intOf]; omega⟩
              | false =>
                rw [hm] at x76
                have HM := Lib.hid hm
                clear hm HPX
                go_upto_region 18 with fail
                clear x76 lP
                refine region_all 10 16 131 [(6, 131), (9, 132)] [(none, []), (none, []), (none, []), (none, []), (none, []), (none, []), (some 0, []), (none, []), (none, []), (some 1, [])] [(93, (.pointer (some ⟨S, i * 6, none⟩))), (94, (.pointer (some ⟨S, i * 6, none⟩))), (95, (.pointer (some ⟨B, 20, none⟩))), (96, (.agg #[.int .i64 (t.n 20), .int .i64 (t.n 21), .int .i64 (t.n 22), .int .i64 (t.n 23), .int .i64 (t.n 24)])), (97, (.pointer (some ⟨S, i * 6, none⟩))), (98, (.pointer (some ⟨S, i * 6, none⟩))), (99, (.pointer (some ⟨S, i * 6, none⟩))), (100, (.pointer (some ⟨S, i * 6 + 1, none⟩)))] (fun bsE vsE W => SS w3 S (liF t i (bsE.getD 1 false) (updB (bsE.getD 0 false) (w2F l t sh i (rF l t sh (at3 sh) i)) (i * 6) (.bool true))) W) (by kernel_rfl) (by kernel_rfl) rfl rfl (by kernel_rfl) (by rfl) ?h0 ?each ?done
                case h0 =>
                  intro vsE hlv
                  obtain ⟨v0, vsE0, rfl, hlv0⟩ := len_one hlv
                  obtain ⟨v1, vsE1, rfl, hlv1⟩ := len_one hlv0
                  obtain rfl := len_nil hlv1
                  exact HW2.out.step (Below.refl _ _).drew
                case each =>
                  simp only [AllE]
                  refine ⟨⟨93, (.pointer (some ⟨S, i * 6, none⟩)), rfl, by kernel_rfl, ?_⟩, ⟨94, (.pointer (some ⟨S, i * 6, none⟩)), rfl, by kernel_rfl, ?_⟩, ⟨95, (.pointer (some ⟨B, 20, none⟩)), rfl, by kernel_rfl, ?_⟩, ⟨96, (.agg #[.int .i64 (t.n 20), .int .i64 (t.n 21), .int .i64 (t.n 22), .int .i64 (t.n 23), .int .i64 (t.n 24)]), rfl, by kernel_rfl, ?_⟩, ⟨97, (.pointer (some ⟨S, i * 6, none⟩)), rfl, by kernel_rfl, ?_⟩, ⟨98, (.pointer (some ⟨S, i * 6, none⟩)), rfl, by kernel_rfl, ?_⟩, Or.inr ⟨rfl, ?q2_6⟩, ⟨99, (.pointer (some ⟨S, i * 6, none⟩)), rfl, by kernel_rfl, ?_⟩, ⟨100, (.pointer (some ⟨S, i * 6 + 1, none⟩)), rfl, by kernel_rfl, ?_⟩, Or.inr ⟨rfl, ?q2_9⟩, trivial⟩
                  case q2_6 =>
                    intro bsE vsE W hlb hlv hnd hbk h
                    obtain ⟨b0, bsE0, rfl, hlb0⟩ := len_one hlb
                    obtain ⟨v0, vsE0, rfl, hlv0⟩ := len_one hlv
                    obtain ⟨b1, bsE1, rfl, hlb1⟩ := len_one hlb0
                    obtain ⟨v1, vsE1, rfl, hlv1⟩ := len_one hlv0
                    obtain rfl := len_nil hlb1
                    obtain rfl := len_nil hlv1
                    obtain rfl : b0 = false := hbk
                    replace h : SS w3 S (liF t i b1 (updB false (w2F l t sh i (rF l t sh (at3 sh) i)) (i * 6) (.bool true))) W := h
                    clear hnd
                    have HST := Lib.hid h
                    have z0 := fb_cell h.fb (show i * 6 < 31 by omega); have z1 : W.frozen? ⟨S, i * 6, none⟩ = false := fb_free h.fb; have hm := h.putA
                    intro K Q hK
                    simp only [putE, updAll, Act.put, List.setIfInBounds_toArray, List.set_cons_zero, List.set_cons_succ, List.set_nil] at hK ⊢
                    go_wp2_with fail
                    all_goals (first | exact hK _ hm | exact hm)
                  case q2_9 =>
                    intro bsE vsE W hlb hlv hnd hbk h
                    obtain ⟨b0, bsE0, rfl, hlb0⟩ := len_one hlb
                    obtain ⟨v0, vsE0, rfl, hlv0⟩ := len_one hlv
                    obtain ⟨b1, bsE1, rfl, hlb1⟩ := len_one hlb0
                    obtain ⟨v1, vsE1, rfl, hlv1⟩ := len_one hlv0
                    obtain rfl := len_nil hlb1
                    obtain rfl := len_nil hlv1
                    obtain rfl : b1 = false := hbk
                    replace h : SS w3 S (liF t i false (updB b0 (w2F l t sh i (rF l t sh (at3 sh) i)) (i * 6) (.bool true))) W := h
                    clear hnd
                    have HST := Lib.hid h
                    have hm := h.putB
                    intro K Q hK
                    simp only [putE, updAll, Act.put, List.setIfInBounds_toArray, List.set_cons_zero, List.set_cons_succ, List.set_nil] at hK ⊢
                    refine wp_store_mid 35 (.tmp 100) (.tmp 96) rfl S (i * 6 + 1) (liL t).toArray rfl rfl (fb_there_mid h.fb (by show i * 6 + 1 + 5 ≤ 31; omega)) size5 (liL_one t) ?_
                    first | exact hK _ hm | exact hm
                  all_goals
                    intro bsE vsE W hlb hlv hnd h
                    obtain ⟨b0, bsE0, rfl, hlb0⟩ := len_one hlb
                    obtain ⟨v0, vsE0, rfl, hlv0⟩ := len_one hlv
                    obtain ⟨b1, bsE1, rfl, hlb1⟩ := len_one hlb0
                    obtain ⟨v1, vsE1, rfl, hlv1⟩ := len_one hlv0
                    obtain rfl := len_nil hlb1
                    obtain rfl := len_nil hlv1
                    replace h : SS w3 S (liF t i b1 (updB b0 (w2F l t sh i (rF l t sh (at3 sh) i)) (i * 6) (.bool true))) W := h
                    clear hnd
                    have HST := Lib.hid h
                    have ht := blk_step HT3.out h.bel; have lB := blk_lt ht; have lS := h.lt; have l31 : 18 + i < 31 := (by omega); have m31 : 21 + i < 31 := (by omega); have x20 : W.cell? ⟨B, 20, none⟩ = some (.int .i64 (t.n 20)) := blk_cell ht rfl; have x21 : W.cell? ⟨B, 21, none⟩ = some (.int .i64 (t.n 21)) := blk_cell ht rfl; have x22 : W.cell? ⟨B, 22, none⟩ = some (.int .i64 (t.n 22)) := blk_cell ht rfl; have x23 : W.cell? ⟨B, 23, none⟩ = some (.int .i64 (t.n 23)) := blk_cell ht rfl; have x24 : W.cell? ⟨B, 24, none⟩ = some (.int .i64 (t.n 24)) := blk_cell ht rfl
                    intro K Q hK
                    simp only [putE, updAll, Act.put, List.setIfInBounds_toArray, List.set_cons_zero, List.set_cons_succ, List.set_nil] at hK ⊢
                    go_wp2_with (fail)
                    all_goals (first | exact hK _ h | exact h)
                case done =>
                  intro vsE W hlv h
                  obtain ⟨v0, vsE0, rfl, hlv0⟩ := len_one hlv
                  obtain ⟨v1, vsE1, rfl, hlv1⟩ := len_one hlv0
                  obtain rfl := len_nil hlv1
                  replace h : SS w3 S (liF t i true (updB true (w2F l t sh i (rF l t sh (at3 sh) i)) (i * 6) (.bool true))) W := h
                  have HST := Lib.hid h
                  have HS9 := Lib.hid h
                  clear h HST
                  simp only [putE, updAll, Act.put, List.setIfInBounds_toArray, List.set_cons_zero, List.set_cons_succ, List.set_nil]
                  have HF : Hid (SS w3 S (f4F l t sh (at3 sh) i) W) := HS9.out
                  clear HS9
                  go_wp2_with fail
                  go_loopw [101] (fun ix wr => ∃ q : Nat, q ≤ 5 ∧ ix = .int .i64 q ∧ Hid (SS w3 S (qF l t i (f4F l t sh (at3 sh) i) q) wr)) (fun ix _ => 5 - (intOf ix).toNat)
                  case atStart => exact ⟨0, by omega, rfl, HF.out.ext fun k _ => qF_0⟩
                  case round =>
                    obtain ⟨q, hq, rfl, HQ⟩ := hrel
                    clear HF
                    by_cases hd : q < 5
                    · have d1 : (q : Int) < 5 := by omega
                      have d0 : (0 : Int) ≤ q := by omega
                      have HPQ := Lib.hid (HP3.out.step HQ.out.bel)
                      have lP := HPQ.out.lt
                      have x79 : wr.cell? ⟨P, 79 + i, none⟩ = some (.bool (hasB 1 (i : Int) l).1) := (HPQ.out.cell (show 79 + i < 88 by omega)).trans (congrArg some (plF_79 hc))
                      cases hl : (hasB 1 (i : Int) l).1 with
                      | true =>
                        rw [hl] at x79
                        have HQ2 := Lib.hid (SS.ext (g := qF l t i (f4F l t sh (at3 sh) i) (q + 1)) HQ.out fun k _ => f4_lie hd hl)
                        clear hl HQ HPQ
                        go_wp2_with fail
                        exact ⟨⟨q + 1, by omega, by push_cast; rfl, HQ2.out⟩, by simp [intOf]; omega⟩
                      | false =>
                        rw [hl] at x79
                        have ht := blk_step HT3.out HQ.out.bel
                        have xq : wr.drew.cell? ⟨B, q, none⟩ = some (.int .i64 (t.n q)) := blk_cell ht ((List.getElem?_toArray ..).trans (truC_n t (by omega)))
                        have xe : wr.drew.cell? ⟨B, 5 + i * 5 + q, none⟩ = some (.int .i64 (t.n (5 + i * 5 + q))) := blk_cell ht ((List.getElem?_toArray ..).trans (truC_n t (by omega)))
                        have lB : B < wr.drew.heap.size := blk_lt ht
                        have lS : S < wr.drew.heap.size := HQ.out.lt
                        have hb := HBD.out q i hd hc
                        have wv : IntKind.i64.wrap (t.n q + t.n (5 + i * 5 + q)) = t.n q + t.n (5 + i * 5 + q) := Go.IntWalk.i64_in _ ⟨by omega, by omega⟩
                        have hv := valC_true (l := l) (t := t) (q := q) hl
                        rw [← hv] at wv
                        have HV := Lib.hid wv
                        generalize hVV : valC l t i q = vv at *
                        have z0 : wr.drew.cell? ⟨S, i * 6 + 1 + q, none⟩ = some _ := fb_cell HQ.out.fb (show i * 6 + 1 + q < 31 by omega)
                        have z1 : wr.drew.frozen? ⟨S, i * 6 + 1 + q, none⟩ = false := fb_free HQ.out.fb
                        have wv2 : IntKind.i64.wrap (t.n q + t.n (5 + i * 5 + q)) = vv := by rw [← hv]; exact HV.out
                        have HVV := Lib.hid hVV
                        clear hb wv hv hVV hl ht HV
                        go_upto_region 23 with fail
                        refine wp_tail_lock 16 (by kernel_rfl) (by kernel_rfl) ?_
                        simp only [List.take_succ_cons, List.take_zero, List.drop_succ_cons, List.drop_zero]
                        iterate 16 (first | ((first | (refine WT.skip rfl rfl rfl ?_) | (refine WT.skipU rfl rfl rfl ?_)); simp only [Act.put, List.setIfInBounds_toArray, List.set_cons_zero, List.set_cons_succ, List.set_nil]) | ((first | (apply WT.val; (exact rfl)) | (apply WT.valg; (exact rfl); (exact rfl); (exact rfl))); (simp [go_sem, xq, xe, lB, lS, wv2, c0, c1, d0, d1]; first | done | exact rfl); simp only [Act.put, List.setIfInBounds_toArray, List.set_cons_zero, List.set_cons_succ, List.set_nil]))
                        refine WT.fin ?_
                        go_wp2_with fail
                        have HQ3 := Lib.hid ((HQ.out.set (i * 6 + 1 + q) (.int .i64 vv)).step (Below.refl _ _).drew)
                        exact ⟨⟨q + 1, by omega, by push_cast; rfl, HQ3.out.ext fun k _ => by rw [← HVV.out]; exact qF_next⟩, by simp [intOf]; omega⟩
                    · obtain rfl : q = 5 := by omega
                      clear hd
                      go_wp2_with fail
                      exact ⟨⟨i + 1, by omega, by push_cast; rfl, HQ.out.ext fun k _ => rF_has hc HM.out f4_hf f4_h0⟩, by simp [intOf]; omega⟩
          · have y82 := cell_step x82 HW0.out.bel
            have H5 := Lib.hid (And.intro xb5 lb5)
            have yb := cell_step xb5 HW0.out.bel
            have ylb := Nat.lt_of_lt_of_le lb5 HW0.out.bel.size
            go_upto_region 12 with fail
            clear x82 y82 lP HPW xb5 lb5 yb ylb
            refine region_all 14 16 131 [(10, 131), (13, 132)] [(none, []), (none, []), (none, []), (none, []), (none, []), (none, []), (none, []), (none, []), (none, []), (none, []), (some 0, []), (none, []), (none, []), (some 1, [])] [(56, (.int .i64 (i : Int))), (57, (.int .i64 (i : Int))), (58, (.pointer (some ⟨b5, 0, none⟩))), (59, (.pointer (some ⟨b5, 0, none⟩))), (60, (.bool (hasB 5 (i : Int) l).2)), (61, (.pointer (some ⟨b5, 0, none⟩))), (62, (.pointer (some ⟨b5, 0, none⟩))), (63, (.bool (hasB 5 (i : Int) l).2)), (64, (.pointer (some ⟨S, 18, none⟩))), (65, (.pointer (some ⟨S, 18 + i, none⟩))), (66, (.pointer (some ⟨S, 21, none⟩))), (67, (.pointer (some ⟨S, 21 + i, none⟩)))] (fun bsE vsE W => SS w3 S (updB (bsE.getD 1 false) (updB (bsE.getD 0 false) (updF (updF (rF l t sh (at3 sh) i) (18 + i) (.bool t.cr)) (21 + i) (.bool t.wa)) (18 + i) (.bool (hasB 5 (i : Int) l).2)) (21 + i) (.bool (hasB 5 (i : Int) l).2)) W) (by kernel_rfl) (by kernel_rfl) rfl rfl (by kernel_rfl) (by rfl) ?h0 ?each ?done
            case h0 =>
              intro vsE hlv
              obtain ⟨v0, vsE0, rfl, hlv0⟩ := len_one hlv
              obtain ⟨v1, vsE1, rfl, hlv1⟩ := len_one hlv0
              obtain rfl := len_nil hlv1
              exact HW0.out.step (Below.refl _ _).drew
            case each =>
              simp only [AllE]
              refine ⟨⟨56, (.int .i64 (i : Int)), rfl, by kernel_rfl, ?_⟩, ⟨57, (.int .i64 (i : Int)), rfl, by kernel_rfl, ?_⟩, ⟨58, (.pointer (some ⟨b5, 0, none⟩)), rfl, by kernel_rfl, ?_⟩, ⟨59, (.pointer (some ⟨b5, 0, none⟩)), rfl, by kernel_rfl, ?_⟩, ⟨60, (.bool (hasB 5 (i : Int) l).2), rfl, by kernel_rfl, ?_⟩, ⟨61, (.pointer (some ⟨b5, 0, none⟩)), rfl, by kernel_rfl, ?_⟩, ⟨62, (.pointer (some ⟨b5, 0, none⟩)), rfl, by kernel_rfl, ?_⟩, ⟨63, (.bool (hasB 5 (i : Int) l).2), rfl, by kernel_rfl, ?_⟩, ⟨64, (.pointer (some ⟨S, 18, none⟩)), rfl, by kernel_rfl, ?_⟩, ⟨65, (.pointer (some ⟨S, 18 + i, none⟩)), rfl, by kernel_rfl, ?_⟩, Or.inr ⟨rfl, ?q3_10⟩, ⟨66, (.pointer (some ⟨S, 21, none⟩)), rfl, by kernel_rfl, ?_⟩, ⟨67, (.pointer (some ⟨S, 21 + i, none⟩)), rfl, by kernel_rfl, ?_⟩, Or.inr ⟨rfl, ?q3_13⟩, trivial⟩
              case q3_10 =>
                intro bsE vsE W hlb hlv hnd hbk h
                obtain ⟨b0, bsE0, rfl, hlb0⟩ := len_one hlb
                obtain ⟨v0, vsE0, rfl, hlv0⟩ := len_one hlv
                obtain ⟨b1, bsE1, rfl, hlb1⟩ := len_one hlb0
                obtain ⟨v1, vsE1, rfl, hlv1⟩ := len_one hlv0
                obtain rfl := len_nil hlb1
                obtain rfl := len_nil hlv1
                obtain rfl : b0 = false := hbk
                replace h : SS w3 S (updB b1 (updB false (updF (updF (rF l t sh (at3 sh) i) (18 + i) (.bool t.cr)) (21 + i) (.bool t.wa)) (18 + i) (.bool (hasB 5 (i : Int) l).2)) (21 + i) (.bool (hasB 5 (i : Int) l).2)) W := h
                clear hnd
                have HST := Lib.hid h
                have z0 := fb_cell h.fb (show 18 + i < 31 by omega); have z1 : W.frozen? ⟨S, 18 + i, none⟩ = false := fb_free h.fb; have hm := h.put0 (by omega)
                intro K Q hK
                simp only [putE, updAll, Act.put, List.setIfInBounds_toArray, List.set_cons_zero, List.set_cons_succ, List.set_nil] at hK ⊢
                go_wp2_with fail
                all_goals (first | exact hK _ hm | exact hm)
              case q3_13 =>
                intro bsE vsE W hlb hlv hnd hbk h
                obtain ⟨b0, bsE0, rfl, hlb0⟩ := len_one hlb
                obtain ⟨v0, vsE0, rfl, hlv0⟩ := len_one hlv
                obtain ⟨b1, bsE1, rfl, hlb1⟩ := len_one hlb0
                obtain ⟨v1, vsE1, rfl, hlv1⟩ := len_one hlv0
                obtain rfl := len_nil hlb1
                obtain rfl := len_nil hlv1
                obtain rfl : b1 = false := hbk
                replace h : SS w3 S (updB false (updB b0 (updF (updF (rF l t sh (at3 sh) i) (18 + i) (.bool t.cr)) (21 + i) (.bool t.wa)) (18 + i) (.bool (hasB 5 (i : Int) l).2)) (21 + i) (.bool (hasB 5 (i : Int) l).2)) W := h
                clear hnd
                have HST := Lib.hid h
                have z0 := fb_cell h.fb (show 21 + i < 31 by omega); have z1 : W.frozen? ⟨S, 21 + i, none⟩ = false := fb_free h.fb; have hm := h.put1
                intro K Q hK
                simp only [putE, updAll, Act.put, List.setIfInBounds_toArray, List.set_cons_zero, List.set_cons_succ, List.set_nil] at hK ⊢
                go_wp2_with fail
                all_goals (first | exact hK _ hm | exact hm)
              all_goals
                intro bsE vsE W hlb hlv hnd h
                obtain ⟨b0, bsE0, rfl, hlb0⟩ := len_one hlb
                obtain ⟨v0, vsE0, rfl, hlv0⟩ := len_one hlv
                obtain ⟨b1, bsE1, rfl, hlb1⟩ := len_one hlb0
                obtain ⟨v1, vsE1, rfl, hlv1⟩ := len_one hlv0
                obtain rfl := len_nil hlb1
                obtain rfl := len_nil hlv1
                replace h : SS w3 S (updB b1 (updB b0 (updF (updF (rF l t sh (at3 sh) i) (18 + i) (.bool t.cr)) (21 + i) (.bool t.wa)) (18 + i) (.bool (hasB 5 (i : Int) l).2)) (21 + i) (.bool (hasB 5 (i : Int) l).2)) W := h
                clear hnd
                have HST := Lib.hid h
                have ht := blk_step HT3.out h.bel; have lB := blk_lt ht; have lS := h.lt; have l31 : 18 + i < 31 := (by omega); have m31 : 21 + i < 31 := (by omega); have b0 := cell_step H5.out.1 h.bel; have b1 := Nat.lt_of_lt_of_le H5.out.2 h.bel.size
                intro K Q hK
                simp only [putE, updAll, Act.put, List.setIfInBounds_toArray, List.set_cons_zero, List.set_cons_succ, List.set_nil] at hK ⊢
                go_wp2_with (fail)
                all_goals (first | exact hK _ h | exact h)
            case done =>
              intro vsE W hlv h
              obtain ⟨v0, vsE0, rfl, hlv0⟩ := len_one hlv
              obtain ⟨v1, vsE1, rfl, hlv1⟩ := len_one hlv0
              obtain rfl := len_nil hlv1
              replace h : SS w3 S (updB true (updB true (updF (updF (rF l t sh (at3 sh) i) (18 + i) (.bool t.cr)) (21 + i) (.bool t.wa)) (18 + i) (.bool (hasB 5 (i : Int) l).2)) (21 + i) (.bool (hasB 5 (i : Int) l).2)) W := h
              have HST := Lib.hid h
              have HS9 := Lib.hid h
              clear h HST
              simp only [putE, updAll, Act.put, List.setIfInBounds_toArray, List.set_cons_zero, List.set_cons_succ, List.set_nil]
              have HW1 := Lib.hid (SS.ext (g := w1F l t i (rF l t sh (at3 sh) i)) HS9.out fun k _ => w1_yes hn5 hc)
              clear HS9 H5 hn5
              have HPW := Lib.hid (HP3.out.step HW1.out.bel)
              have lP := HPW.out.lt
              rcases HPW.out.wire6 hc with ⟨x85, hn6⟩ | ⟨b6, x85, hn6, xb6, lb6⟩
              · go_upto_region 16 with fail
                have HW2 := Lib.hid (HW1.out.ext fun k _ => w2_no hn6 hc)
                clear HW1 hn6 x85 lP HPW
                have HPX := Lib.hid (HP3.out.step HW2.out.bel)
                have lP := HPX.out.lt
                have x76 : W.cell? ⟨P, 76 + i, none⟩ = some (.bool (hasB 2 (i : Int) l).1) := (HPX.out.cell (show 76 + i < 88 by omega)).trans (congrArg some (plF_76 hc))
                cases hm : (hasB 2 (i : Int) l).1 with
                | true =>
                  rw [hm] at x76
                  have HX2 := Lib.hid (SS.ext (g := rF l t sh (at3 sh) (i + 1)) HW2.out fun k _ => rF_mute hc hm)
                  clear hm HW2 HPX
                  go_wp2_with fail
                  exact ⟨⟨i + 1, by omega, by push_cast; rfl, HX2.out⟩, by simp [intOf]; omega⟩
                | false =>
                  rw [hm] at x76
                  have HM := Lib.hid hm
                  clear hm HPX
                  go_upto_region 18 with fail
                  clear x76 lP
                  refine region_all 10 16 131 [(6, 131), (9, 132)] [(none, []), (none, []), (none, []), (none, []), (none, []), (none, []), (some 0, []), (none, []), (none, []), (some 1, [])] [(93, (.pointer (some ⟨S, i * 6, none⟩))), (94, (.pointer (some ⟨S, i * 6, none⟩))), (95, (.pointer (some ⟨B, 20, none⟩))), (96, (.agg #[.int .i64 (t.n 20), .int .i64 (t.n 21), .int .i64 (t.n 22), .int .i64 (t.n 23), .int .i64 (t.n 24)])), (97, (.pointer (some ⟨S, i * 6, none⟩))), (98, (.pointer (some ⟨S, i * 6, none⟩))), (99, (.pointer (some ⟨S, i * 6, none⟩))), (100, (.pointer (some ⟨S, i * 6 + 1, none⟩)))] (fun bsE vsE W => SS w3 S (liF t i (bsE.getD 1 false) (updB (bsE.getD 0 false) (w2F l t sh i (rF l t sh (at3 sh) i)) (i * 6) (.bool true))) W) (by kernel_rfl) (by kernel_rfl) rfl rfl (by kernel_rfl) (by rfl) ?h0 ?each ?done
                  case h0 =>
                    intro vsE hlv
                    obtain ⟨v0, vsE0, rfl, hlv0⟩ := len_one hlv
                    obtain ⟨v1, vsE1, rfl, hlv1⟩ := len_one hlv0
                    obtain rfl := len_nil hlv1
                    exact HW2.out.step (Below.refl _ _).drew
                  case each =>
                    simp only [AllE]
                    refine ⟨⟨93, (.pointer (some ⟨S, i * 6, none⟩)), rfl, by kernel_rfl, ?_⟩, ⟨94, (.pointer (some ⟨S, i * 6, none⟩)), rfl, by kernel_rfl, ?_⟩, ⟨95, (.pointer (some ⟨B, 20, none⟩)), rfl, by kernel_rfl, ?_⟩, ⟨96, (.agg #[.int .i64 (t.n 20), .int .i64 (t.n 21), .int .i64 (t.n 22), .int .i64 (t.n 23), .int .i64 (t.n 24)]), rfl, by kernel_rfl, ?_⟩, ⟨97, (.pointer (some ⟨S, i * 6, none⟩)), rfl, by kernel_rfl, ?_⟩, ⟨98, (.pointer (some ⟨S, i * 6, none⟩)), rfl, by kernel_rfl, ?_⟩, Or.inr ⟨rfl, ?q1_6⟩, ⟨99, (.pointer (some ⟨S, i * 6, none⟩)), rfl, by kernel_rfl, ?_⟩, ⟨100, (.pointer (some ⟨S, i * 6 + 1, none⟩)), rfl, by kernel_rfl, ?_⟩, Or.inr ⟨rfl, ?q1_9⟩, trivial⟩
                    case q1_6 =>
                      intro bsE vsE W hlb hlv hnd hbk h
                      obtain ⟨b0, bsE0, rfl, hlb0⟩ := len_one hlb
                      obtain ⟨v0, vsE0, rfl, hlv0⟩ := len_one hlv
                      obtain ⟨b1, bsE1, rfl, hlb1⟩ := len_one hlb0
                      obtain ⟨v1, vsE1, rfl, hlv1⟩ := len_one hlv0
                      obtain rfl := len_nil hlb1
                      obtain rfl := len_nil hlv1
                      obtain rfl : b0 = false := hbk
                      replace h : SS w3 S (liF t i b1 (updB false (w2F l t sh i (rF l t sh (at3 sh) i)) (i * 6) (.bool true))) W := h
                      clear hnd
                      have HST := Lib.hid h
                      have z0 := fb_cell h.fb (show i * 6 < 31 by omega); have z1 : W.frozen? ⟨S, i * 6, none⟩ = false := fb_free h.fb; have hm := h.putA
                      intro K Q hK
                      simp only [putE, updAll, Act.put, List.setIfInBounds_toArray, List.set_cons_zero, List.set_cons_succ, List.set_nil] at hK ⊢
                      go_wp2_with fail
                      all_goals (first | exact hK _ hm | exact hm)
                    case q1_9 =>
                      intro bsE vsE W hlb hlv hnd hbk h
                      obtain ⟨b0, bsE0, rfl, hlb0⟩ := len_one hlb
                      obtain ⟨v0, vsE0, rfl, hlv0⟩ := len_one hlv
                      obtain ⟨b1, bsE1, rfl, hlb1⟩ := len_one hlb0
                      obtain ⟨v1, vsE1, rfl, hlv1⟩ := len_one hlv0
                      obtain rfl := len_nil hlb1
                      obtain rfl := len_nil hlv1
                      obtain rfl : b1 = false := hbk
                      replace h : SS w3 S (liF t i false (updB b0 (w2F l t sh i (rF l t sh (at3 sh) i)) (i * 6) (.bool true))) W := h
                      clear hnd
                      have HST := Lib.hid h
                      have hm := h.putB
                      intro K Q hK
                      simp only [putE, updAll, Act.put, List.setIfInBounds_toArray, List.set_cons_zero, List.set_cons_succ, List.set_nil] at hK ⊢
                      refine wp_store_mid 35 (.tmp 100) (.tmp 96) rfl S (i * 6 + 1) (liL t).toArray rfl rfl (fb_there_mid h.fb (by show i * 6 + 1 + 5 ≤ 31; omega)) size5 (liL_one t) ?_
                      first | exact hK _ hm | exact hm
                    all_goals
                      intro bsE vsE W hlb hlv hnd h
                      obtain ⟨b0, bsE0, rfl, hlb0⟩ := len_one hlb
                      obtain ⟨v0, vsE0, rfl, hlv0⟩ := len_one hlv
                      obtain ⟨b1, bsE1, rfl, hlb1⟩ := len_one hlb0
                      obtain ⟨v1, vsE1, rfl, hlv1⟩ := len_one hlv0
                      obtain rfl := len_nil hlb1
                      obtain rfl := len_nil hlv1
                      replace h : SS w3 S (liF t i b1 (updB b0 (w2F l t sh i (rF l t sh (at3 sh) i)) (i * 6) (.bool true))) W := h
                      clear hnd
                      have HST := Lib.hid h
                      have ht := blk_step HT3.out h.bel; have lB := blk_lt ht; have lS := h.lt; have l31 : 18 + i < 31 := (by omega); have m31 : 21 + i < 31 := (by omega); have x20 : W.cell? ⟨B, 20, none⟩ = some (.int .i64 (t.n 20)) := blk_cell ht rfl; have x21 : W.cell? ⟨B, 21, none⟩ = some (.int .i64 (t.n 21)) := blk_cell ht rfl; have x22 : W.cell? ⟨B, 22, none⟩ = some (.int .i64 (t.n 22)) := blk_cell ht rfl; have x23 : W.cell? ⟨B, 23, none⟩ = some (.int .i64 (t.n 23)) := blk_cell ht rfl; have x24 : W.cell? ⟨B, 24, none⟩ = some (.int .i64 (t.n 24)) := blk_cell ht rfl
                      intro K Q hK
                      simp only [putE, updAll, Act.put, List.setIfInBounds_toArray, List.set_cons_zero, List.set_cons_succ, List.set_nil] at hK ⊢
                      go_wp2_with (fail)
                      all_goals (first | exact hK _ h | exact h)
                  case done =>
                    intro vsE W hlv h
                    obtain ⟨v0, vsE0, rfl, hlv0⟩ := len_one hlv
                    obtain ⟨v1, vsE1, rfl, hlv1⟩ := len_one hlv0
                    obtain rfl := len_nil hlv1
                    replace h : SS w3 S (liF t i true (updB true (w2F l t sh i (rF l t sh (at3 sh) i)) (i * 6) (.bool true))) W := h
                    have HST := Lib.hid h
                    have HS9 := Lib.hid h
                    clear h HST
                    simp only [putE, updAll, Act.put, List.setIfInBounds_toArray, List.set_cons_zero, List.set_cons_succ, List.set_nil]
                    have HF : Hid (SS w3 S (f4F l t sh (at3 sh) i) W) := HS9.out
                    clear HS9
                    go_wp2_with fail
                    go_loopw [101] (fun ix wr => ∃ q : Nat, q ≤ 5 ∧ ix = .int .i64 q ∧ Hid (SS w3 S (qF l t i (f4F l t sh (at3 sh) i) q) wr)) (fun ix _ => 5 - (intOf ix).toNat)
                    case atStart => exact ⟨0, by omega, rfl, HF.out.ext fun k _ => qF_0⟩
                    case round =>
                      obtain ⟨q, hq, rfl, HQ⟩ := hrel
                      clear HF
                      by_cases hd : q < 5
                      · have d1 : (q : Int) < 5 := by omega
                        have d0 : (0 : Int) ≤ q := by omega
                        have HPQ := Lib.hid (HP3.out.step HQ.out.bel)
                        have lP := HPQ.out.lt
                        have x79 : wr.cell? ⟨P, 79 + i, none⟩ = some (.bool (hasB 1 (i : Int) l).1) := (HPQ.out.cell (show 79 + i < 88 by omega)).trans (congrArg some (plF_79 hc))
                        cases hl : (hasB 1 (i : Int) l).1 with
                        | true =>
                          rw [hl] at x79
                          have HQ2 := Lib.hid (SS.ext (g := qF l t i (f4F l t sh (at3 sh) i) (q + 1)) HQ.out fun k _ => f4_lie hd hl)
                          clear hl HQ HPQ
                          go_wp2_with fail
                          exact ⟨⟨q + 1, by omega, by push_cast; rfl, HQ2.out⟩, by simp [intOf]; omega⟩
                        | false =>
                          rw [hl] at x79
                          have ht := blk_step HT3.out HQ.out.bel
                          have xq : wr.drew.cell? ⟨B, q, none⟩ = some (.int .i64 (t.n q)) := blk_cell ht ((List.getElem?_toArray ..).trans (truC_n t (by omega)))
                          have xe : wr.drew.cell? ⟨B, 5 + i * 5 + q, none⟩ = some (.int .i64 (t.n (5 + i * 5 + q))) := blk_cell ht ((List.getElem?_toArray ..).trans (truC_n t (by omega)))
                          have lB : B < wr.drew.heap.size := blk_lt ht
                          have lS : S < wr.drew.heap.size := HQ.out.lt
                          have hb := HBD.out q i hd hc
                          have wv : IntKind.i64.wrap (t.n q + t.n (5 + i * 5 + q)) = t.n q + t.n (5 + i * 5 + q) := Go.IntWalk.i64_in _ ⟨by omega, by omega⟩
                          have hv := valC_true (l := l) (t := t) (q := q) hl
                          rw [← hv] at wv
                          have HV := Lib.hid wv
                          generalize hVV : valC l t i q = vv at *
                          have z0 : wr.drew.cell? ⟨S, i * 6 + 1 + q, none⟩ = some _ := fb_cell HQ.out.fb (show i * 6 + 1 + q < 31 by omega)
                          have z1 : wr.drew.frozen? ⟨S, i * 6 + 1 + q, none⟩ = false := fb_free HQ.out.fb
                          have wv2 : IntKind.i64.wrap (t.n q + t.n (5 + i * 5 + q)) = vv := by rw [← hv]; exact HV.out
                          have HVV := Lib.hid hVV
                          clear hb wv hv hVV hl ht HV
                          go_upto_region 23 with fail
                          refine wp_tail_lock 16 (by kernel_rfl) (by kernel_rfl) ?_
                          simp only [List.take_succ_cons, List.take_zero, List.drop_succ_cons, List.drop_zero]
                          iterate 16 (first | ((first | (refine WT.skip rfl rfl rfl ?_) | (refine WT.skipU rfl rfl rfl ?_)); simp only [Act.put, List.setIfInBounds_toArray, List.set_cons_zero, List.set_cons_succ, List.set_nil]) | ((first | (apply WT.val; (exact rfl)) | (apply WT.valg; (exact rfl); (exact rfl); (exact rfl))); (simp [go_sem, xq, xe, lB, lS, wv2, c0, c1, d0, d1]; first | done | exact rfl); simp only [Act.put, List.setIfInBounds_toArray, List.set_cons_zero, List.set_cons_succ, List.set_nil]))
                          refine WT.fin ?_
                          go_wp2_with fail
                          have HQ3 := Lib.hid ((HQ.out.set (i * 6 + 1 + q) (.int .i64 vv)).step (Below.refl _ _).drew)
                          exact ⟨⟨q + 1, by omega, by push_cast; rfl, HQ3.out.ext fun k _ => by rw [← HVV.out]; exact qF_next⟩, by simp [intOf]; omega⟩
                      · obtain rfl : q = 5 := by omega
                        clear hd
                        go_wp2_with fail
                        exact ⟨⟨i + 1, by omega, by push_cast; rfl, HQ.out.ext fun k _ => rF_has hc HM.out f4_hf f4_h0⟩, by simp [intOf]; omega⟩
              · have z0 := fb_cell HW1.out.fb (show 24 + i < 31 by omega)
                have z1 : _ = false := fb_free (k := 24 + i) HW1.out.fb
                have lS := HW1.out.lt
                go_upto_region 16 with fail
                have HW2 := Lib.hid (SS.ext (g := w2F l t sh i (rF l t sh (at3 sh) i)) (HW1.out.set (24 + i) (.bool (hasB 6 (i : Int) l).2)) fun k _ => w2_yes hn6)
                clear HW1 hn6 x85 lP xb6 lb6 z0 z1 lS HPW
                generalize W.setCell ⟨S, 24 + i, none⟩ (.bool (hasB 6 (i : Int) l).2) = W6 at *
                have HPX := Lib.hid (HP3.out.step HW2.out.bel)
                have lP := HPX.out.lt
                have x76 : W6.cell? ⟨P, 76 + i, none⟩ = some (.bool (hasB 2 (i : Int) l).1) := (HPX.out.cell (show 76 + i < 88 by omega)).trans (congrArg some (plF_76 hc))
                cases hm : (hasB 2 (i : Int) l).1 with
                | true =>
                  rw [hm] at x76
                  have HX2 := Lib.hid (SS.ext (g := rF l t sh (at3 sh) (i + 1)) HW2.out fun k _ => rF_mute hc hm)
                  clear hm HW2 HPX
                  go_wp2_with fail
                  exact ⟨⟨i + 1, by omega, by push_cast; rfl, HX2.out⟩, by simp [intOf]; omega⟩
                | false =>
                  rw [hm] at x76
                  have HM := Lib.hid hm
                  clear hm HPX
                  go_upto_region 18 with fail
                  clear x76 lP
                  refine region_all 10 16 131 [(6, 131), (9, 132)] [(none, []), (none, []), (none, []), (none, []), (none, []), (none, []), (some 0, []), (none, []), (none, []), (some 1, [])] [(93, (.pointer (some ⟨S, i * 6, none⟩))), (94, (.pointer (some ⟨S, i * 6, none⟩))), (95, (.pointer (some ⟨B, 20, none⟩))), (96, (.agg #[.int .i64 (t.n 20), .int .i64 (t.n 21), .int .i64 (t.n 22), .int .i64 (t.n 23), .int .i64 (t.n 24)])), (97, (.pointer (some ⟨S, i * 6, none⟩))), (98, (.pointer (some ⟨S, i * 6, none⟩))), (99, (.pointer (some ⟨S, i * 6, none⟩))), (100, (.pointer (some ⟨S, i * 6 + 1, none⟩)))] (fun bsE vsE W => SS w3 S (liF t i (bsE.getD 1 false) (updB (bsE.getD 0 false) (w2F l t sh i (rF l t sh (at3 sh) i)) (i * 6) (.bool true))) W) (by kernel_rfl) (by kernel_rfl) rfl rfl (by kernel_rfl) (by rfl) ?h0 ?each ?done
                  case h0 =>
                    intro vsE hlv
                    obtain ⟨v0, vsE0, rfl, hlv0⟩ := len_one hlv
                    obtain ⟨v1, vsE1, rfl, hlv1⟩ := len_one hlv0
                    obtain rfl := len_nil hlv1
                    exact HW2.out.step (Below.refl _ _).drew
                  case each =>
                    simp only [AllE]
                    refine ⟨⟨93, (.pointer (some ⟨S, i * 6, none⟩)), rfl, by kernel_rfl, ?_⟩, ⟨94, (.pointer (some ⟨S, i * 6, none⟩)), rfl, by kernel_rfl, ?_⟩, ⟨95, (.pointer (some ⟨B, 20, none⟩)), rfl, by kernel_rfl, ?_⟩, ⟨96, (.agg #[.int .i64 (t.n 20), .int .i64 (t.n 21), .int .i64 (t.n 22), .int .i64 (t.n 23), .int .i64 (t.n 24)]), rfl, by kernel_rfl, ?_⟩, ⟨97, (.pointer (some ⟨S, i * 6, none⟩)), rfl, by kernel_rfl, ?_⟩, ⟨98, (.pointer (some ⟨S, i * 6, none⟩)), rfl, by kernel_rfl, ?_⟩, Or.inr ⟨rfl, ?q2_6⟩, ⟨99, (.pointer (some ⟨S, i * 6, none⟩)), rfl, by kernel_rfl, ?_⟩, ⟨100, (.pointer (some ⟨S, i * 6 + 1, none⟩)), rfl, by kernel_rfl, ?_⟩, Or.inr ⟨rfl, ?q2_9⟩, trivial⟩
                    case q2_6 =>
                      intro bsE vsE W hlb hlv hnd hbk h
                      obtain ⟨b0, bsE0, rfl, hlb0⟩ := len_one hlb
                      obtain ⟨v0, vsE0, rfl, hlv0⟩ := len_one hlv
                      obtain ⟨b1, bsE1, rfl, hlb1⟩ := len_one hlb0
                      obtain ⟨v1, vsE1, rfl, hlv1⟩ := len_one hlv0
                      obtain rfl := len_nil hlb1
                      obtain rfl := len_nil hlv1
                      obtain rfl : b0 = false := hbk
                      replace h : SS w3 S (liF t i b1 (updB false (w2F l t sh i (rF l t sh (at3 sh) i)) (i * 6) (.bool true))) W := h
                      clear hnd
                      have HST := Lib.hid h
                      have z0 := fb_cell h.fb (show i * 6 < 31 by omega); have z1 : W.frozen? ⟨S, i * 6, none⟩ = false := fb_free h.fb; have hm := h.putA
                      intro K Q hK
                      simp only [putE, updAll, Act.put, List.setIfInBounds_toArray, List.set_cons_zero, List.set_cons_succ, List.set_nil] at hK ⊢
                      go_wp2_with fail
                      all_goals (first | exact hK _ hm | exact hm)
                    case q2_9 =>
                      intro bsE vsE W hlb hlv hnd hbk h
                      obtain ⟨b0, bsE0, rfl, hlb0⟩ := len_one hlb
                      obtain ⟨v0, vsE0, rfl, hlv0⟩ := len_one hlv
                      obtain ⟨b1, bsE1, rfl, hlb1⟩ := len_one hlb0
                      obtain ⟨v1, vsE1, rfl, hlv1⟩ := len_one hlv0
                      obtain rfl := len_nil hlb1
                      obtain rfl := len_nil hlv1
                      obtain rfl : b1 = false := hbk
                      replace h : SS w3 S (liF t i false (updB b0 (w2F l t sh i (rF l t sh (at3 sh) i)) (i * 6) (.bool true))) W := h
                      clear hnd
                      have HST := Lib.hid h
                      have hm := h.putB
                      intro K Q hK
                      simp only [putE, updAll, Act.put, List.setIfInBounds_toArray, List.set_cons_zero, List.set_cons_succ, List.set_nil] at hK ⊢
                      refine wp_store_mid 35 (.tmp 100) (.tmp 96) rfl S (i * 6 + 1) (liL t).toArray rfl rfl (fb_there_mid h.fb (by show i * 6 + 1 + 5 ≤ 31; omega)) size5 (liL_one t) ?_
                      first | exact hK _ hm | exact hm
                    all_goals
                      intro bsE vsE W hlb hlv hnd h
                      obtain ⟨b0, bsE0, rfl, hlb0⟩ := len_one hlb
                      obtain ⟨v0, vsE0, rfl, hlv0⟩ := len_one hlv
                      obtain ⟨b1, bsE1, rfl, hlb1⟩ := len_one hlb0
                      obtain ⟨v1, vsE1, rfl, hlv1⟩ := len_one hlv0
                      obtain rfl := len_nil hlb1
                      obtain rfl := len_nil hlv1
                      replace h : SS w3 S (liF t i b1 (updB b0 (w2F l t sh i (rF l t sh (at3 sh) i)) (i * 6) (.bool true))) W := h
                      clear hnd
                      have HST := Lib.hid h
                      have ht := blk_step HT3.out h.bel; have lB := blk_lt ht; have lS := h.lt; have l31 : 18 + i < 31 := (by omega); have m31 : 21 + i < 31 := (by omega); have x20 : W.cell? ⟨B, 20, none⟩ = some (.int .i64 (t.n 20)) := blk_cell ht rfl; have x21 : W.cell? ⟨B, 21, none⟩ = some (.int .i64 (t.n 21)) := blk_cell ht rfl; have x22 : W.cell? ⟨B, 22, none⟩ = some (.int .i64 (t.n 22)) := blk_cell ht rfl; have x23 : W.cell? ⟨B, 23, none⟩ = some (.int .i64 (t.n 23)) := blk_cell ht rfl; have x24 : W.cell? ⟨B, 24, none⟩ = some (.int .i64 (t.n 24)) := blk_cell ht rfl
                      intro K Q hK
                      simp only [putE, updAll, Act.put, List.setIfInBounds_toArray, List.set_cons_zero, List.set_cons_succ, List.set_nil] at hK ⊢
                      go_wp2_with (fail)
                      all_goals (first | exact hK _ h | exact h)
                  case done =>
                    intro vsE W hlv h
                    obtain ⟨v0, vsE0, rfl, hlv0⟩ := len_one hlv
                    obtain ⟨v1, vsE1, rfl, hlv1⟩ := len_one hlv0
                    obtain rfl := len_nil hlv1
                    replace h : SS w3 S (liF t i true (updB true (w2F l t sh i (rF l t sh (at3 sh) i)) (i * 6) (.bool true))) W := h
                    have HST := Lib.hid h
                    have HS9 := Lib.hid h
                    clear h HST
                    simp only [putE, updAll, Act.put, List.setIfInBounds_toArray, List.set_cons_zero, List.set_cons_succ, List.set_nil]
                    have HF : Hid (SS w3 S (f4F l t sh (at3 sh) i) W) := HS9.out
                    clear HS9
                    go_wp2_with fail
                    go_loopw [101] (fun ix wr => ∃ q : Nat, q ≤ 5 ∧ ix = .int .i64 q ∧ Hid (SS w3 S (qF l t i (f4F l t sh (at3 sh) i) q) wr)) (fun ix _ => 5 - (intOf ix).toNat)
                    case atStart => exact ⟨0, by omega, rfl, HF.out.ext fun k _ => qF_0⟩
                    case round =>
                      obtain ⟨q, hq, rfl, HQ⟩ := hrel
                      clear HF
                      by_cases hd : q < 5
                      · have d1 : (q : Int) < 5 := by omega
                        have d0 : (0 : Int) ≤ q := by omega
                        have HPQ := Lib.hid (HP3.out.step HQ.out.bel)
                        have lP := HPQ.out.lt
                        have x79 : wr.cell? ⟨P, 79 + i, none⟩ = some (.bool (hasB 1 (i : Int) l).1) := (HPQ.out.cell (show 79 + i < 88 by omega)).trans (congrArg some (plF_79 hc))
                        cases hl : (hasB 1 (i : Int) l).1 with
                        | true =>
                          rw [hl] at x79
                          have HQ2 := Lib.hid (SS.ext (g := qF l t i (f4F l t sh (at3 sh) i) (q + 1)) HQ.out fun k _ => f4_lie hd hl)
                          clear hl HQ HPQ
                          go_wp2_with fail
                          exact ⟨⟨q + 1, by omega, by push_cast; rfl, HQ2.out⟩, by simp [intOf]; omega⟩
                        | false =>
                          rw [hl] at x79
                          have ht := blk_step HT3.out HQ.out.bel
                          have xq : wr.drew.cell? ⟨B, q, none⟩ = some (.int .i64 (t.n q)) := blk_cell ht ((List.getElem?_toArray ..).trans (truC_n t (by omega)))
                          have xe : wr.drew.cell? ⟨B, 5 + i * 5 + q, none⟩ = some (.int .i64 (t.n (5 + i * 5 + q))) := blk_cell ht ((List.getElem?_toArray ..).trans (truC_n t (by omega)))
                          have lB : B < wr.drew.heap.size := blk_lt ht
                          have lS : S < wr.drew.heap.size := HQ.out.lt
                          have hb := HBD.out q i hd hc
                          have wv : IntKind.i64.wrap (t.n q + t.n (5 + i * 5 + q)) = t.n q + t.n (5 + i * 5 + q) := Go.IntWalk.i64_in _ ⟨by omega, by omega⟩
                          have hv := valC_true (l := l) (t := t) (q := q) hl
                          rw [← hv] at wv
                          have HV := Lib.hid wv
                          generalize hVV : valC l t i q = vv at *
                          have z0 : wr.drew.cell? ⟨S, i * 6 + 1 + q, none⟩ = some _ := fb_cell HQ.out.fb (show i * 6 + 1 + q < 31 by omega)
                          have z1 : wr.drew.frozen? ⟨S, i * 6 + 1 + q, none⟩ = false := fb_free HQ.out.fb
                          have wv2 : IntKind.i64.wrap (t.n q + t.n (5 + i * 5 + q)) = vv := by rw [← hv]; exact HV.out
                          have HVV := Lib.hid hVV
                          clear hb wv hv hVV hl ht HV
                          go_upto_region 23 with fail
                          refine wp_tail_lock 16 (by kernel_rfl) (by kernel_rfl) ?_
                          simp only [List.take_succ_cons, List.take_zero, List.drop_succ_cons, List.drop_zero]
                          iterate 16 (first | ((first | (refine WT.skip rfl rfl rfl ?_) | (refine WT.skipU rfl rfl rfl ?_)); simp only [Act.put, List.setIfInBounds_toArray, List.set_cons_zero, List.set_cons_succ, List.set_nil]) | ((first | (apply WT.val; (exact rfl)) | (apply WT.valg; (exact rfl); (exact rfl); (exact rfl))); (simp [go_sem, xq, xe, lB, lS, wv2, c0, c1, d0, d1]; first | done | exact rfl); simp only [Act.put, List.setIfInBounds_toArray, List.set_cons_zero, List.set_cons_succ, List.set_nil]))
                          refine WT.fin ?_
                          go_wp2_with fail
                          have HQ3 := Lib.hid ((HQ.out.set (i * 6 + 1 + q) (.int .i64 vv)).step (Below.refl _ _).drew)
                          exact ⟨⟨q + 1, by omega, by push_cast; rfl, HQ3.out.ext fun k _ => by rw [← HVV.out]; exact qF_next⟩, by simp [intOf]; omega⟩
                      · obtain rfl : q = 5 := by omega
                        clear hd
                        go_wp2_with fail
                        exact ⟨⟨i + 1, by omega, by push_cast; rfl, HQ.out.ext fun k _ => rF_has hc HM.out f4_hf f4_h0⟩, by simp [intOf]; omega⟩
      · obtain rfl : i = 3 := by omega
        clear hc
        have HRE := Lib.hid (blk_step HR3.out HS.out.bel)
        have HFB := Lib.hid (fb_ext HS.out.fb fun k _ => rF_all)
        have HSE := Lib.hid HS.out.bel
        clear HS
        have HB4 : Hid (Below w.heap.size w (wr.setCells (B + 1) 0 (fA 31 (sgF l t sh)).toList)) := bSetCells _ _ (by rw [hB]; exact HBW.out.trans (HSE.out.mono (by have := HZ3.out; omega))) (by omega)
        have HR4 : Hid ((wr.setCells (B + 1) 0 (fA 31 (sgF l t sh)).toList).heap[B + 1]? = some (fO 31 (sgF l t sh) 52)) := (fb_sets_all HRE.out (by rw [fA_list]; simp)).trans (by refine congrArg some (fO_ext fun k hk => ?_); rw [fA_list, List.getD_eq_getElem?_getD, List.getElem?_map, List.getElem?_range hk]; rfl)
        go_wp2_with (first | (refine wpList_load_mid rfl 52 (.tmp 6) rfl S 0 rfl (fA 31 (sgF l t sh)).toList _ (fb_range HFB.out) Try.underlying52 rfl (by rw [fA_list]; simpa using sgSize) ?_) | (refine wpList_store_mid rfl 52 (.tmp 4) (.tmp 130) rfl (B + 1) 0 (fA 31 (sgF l t sh)) rfl (by first | rfl | (rw [fA_back2]; rfl)) (by rw [fA_size]; exact fb_there HRE.out) (by rw [fA_size]; exact sgSize) (fA_one fun k _ => rF_one) ?_))
        exact bodyPost_ret (v := .tuple #[.agg (fA 31 (sgF l t sh)), .int .i64 0]) (res_cell Try.results12 rfl (sgLoad HR4.out) rfl) rfl ⟨rfl, HB4.out⟩
end Go.Proofs.Ytladkknbkgomfaa
