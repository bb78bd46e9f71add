/-
  Corners of the program.
-/
import Derived.Test.YtkldlmbccdfjdaaG8Boxes
import Derived.Test.YtkldlmbccdfjdaaG6Boxes
import Derived.ChangeSlices
import Derived.OpenShut
import Derived.ChangeSame
import Derived.ProofKit
import Derived.Deep.Slices
import Derived.Lib.SmallJoins
import Derived.Test.YtkldlmbccdfjdaaG4Boxes
set_option linter.unusedSimpArgs false
set_option linter.unusedVariables false
namespace Go.Proofs.Ytkldlmbccdfjdaa
open Go.RowKit
theorem infoRI : (Try.prog.info? 22).map (fun i => (i.zero, i.size, i.bytes)) = some (some (.slice none 0 0), 1, 24) := by kernel_rfl
/-- The table of the program, its rows being made. -/
def tabL (T : Nat) (cur : Array Value) : Nat → Option Obj := fun p => if p = T then some (.cells cur 22 (0, 0)) else none
def rowsF (N : Nat) (cv : Nat → Value) (rs : Nat → List Int) : Nat → Option (Value × List Int) := fun s => if s < N then some (cv s, rs s) else none
def rsF (l : List (Int × Int)) (n k i : Nat) : Nat → List Int := fun j => if j < k then cRow l n j else if j = k then (cRow l n k).take i else []
structure CS (w : World) (T N : Nat) (cv : Nat → Value) (rs : Nat → List Int) (W : World) : Prop where
  tb : ∃ cur, MQ w (T + 1) (tabL T cur) (rowsF N cv rs) W ∧ cur.size = N ∧ ∀ j, j < N → cur[j]? = some (cv j)
  lo : w.heap.size ≤ T
section
variable {w W w2 : World} {T N : Nat} {cv : Nat → Value} {rs : Nat → List Int}
theorem CS.step (h : CS w T N cv rs W) (hb : Below W.heap.size W w2) : CS w T N cv rs w2 := by
  obtain ⟨⟨cur, h1, h2, h3⟩, h4⟩ := h
  exact ⟨⟨cur, h1.step hb, h2, h3⟩, h4⟩
theorem CS.bel (h : CS w T N cv rs W) : Below w.heap.size w W := by
  obtain ⟨⟨cur, h1, h2, h3⟩, h4⟩ := h
  exact h1.bel
theorem CS.cell (h : CS w T N cv rs W) {j : Nat} (hj : j < N) : W.cell? ⟨T, j, none⟩ = some (cv j) ∧ W.frozen? ⟨T, j, none⟩ = false ∧ T < W.heap.size := by
  obtain ⟨⟨cur, h1, h2, h3⟩, h4⟩ := h
  have := h1.sb T _ (if_pos rfl)
  exact ⟨blk_cell this (h3 j hj), blk_free this, blk_lt this⟩
end
theorem rsF_zero {l : List (Int × Int)} {n j : Nat} : rsF l n 0 0 j = [] := by
  unfold rsF
  rw [if_neg (by omega)]
  split <;> rfl
theorem made_none {N : Nat} {k : Nat} (h : k < N) : (madeCells (Value.slice none 0 0).cells (N * 1))[k]? = some (.slice none 0 0) := by
  rw [Array.getElem?_eq_getElem (by rw [size_madeCells]; omega)]
  simp [madeCells, Value.cells, Nat.mod_one]
theorem CS.start {w W : World} {l : List (Int × Int)} {T N n : Nat} (hT : w.heap.size ≤ T) (hb : Below w.heap.size w W) (ho : W.ownsRow T 22 1 (.slice (some ⟨T, 0, none⟩) N N) N (madeCells (Value.slice none 0 0).cells (N * 1)).toList) : CS w T N (fun _ => .slice none 0 0) (rsF l n 0 0) W := by
  rcases ho.2 with ⟨h, -⟩ | ⟨g, cap, cur, h, -, h2, h3, h4, h5, h6⟩
  · cases h
  · cases h
    refine ⟨⟨cur, ⟨by omega, fun p o e => ?_, hb, by have := blk_lt h2; omega, fun p o e => ?_, fun s v xs e => ?_, fun s s' v xs v' xs' _ e e' => ?_⟩, by omega, fun j hj => ?_⟩, hT⟩
    · unfold tabL at e
      split at e
      · exact Or.inl (by omega)
      · cases e
    · unfold tabL at e
      split at e
      · rename_i c; subst c; cases e; exact h2
      · cases e
    · unfold rowsF at e
      split at e
      · simp only [Option.some.injEq, Prod.mk.injEq] at e
        obtain ⟨rfl, rfl⟩ := e
        rw [rsF_zero]
        exact IntOwn.nil
      · cases e
    · unfold rowsF at e
      split at e
      · simp only [Option.some.injEq, Prod.mk.injEq] at e
        obtain ⟨rfl, rfl⟩ := e
        exact Far.nil
      · cases e
    · have := made_none (N := N) hj
      rw [← Array.getElem?_toList, ← h6, List.getElem?_take_of_lt (by omega), Array.getElem?_toList] at this
      exact this
/-- A number that is appended to row k. -/
structure RowA (w : World) (T N bx : Nat) (cur : Array Value) (cv : Nat → Value) (rs : Nat → List Int) (k : Nat) (x x1 x2 : Int) (b0 b1 : Bool) (v0 v1 : Value) (W : World) : Prop where
  mq : MQ w (T + 1) (updF (tabL T cur) bx (some (.cells #[.int .i64 x1, .int .i64 x2] 40 (0, 0)))) (updF (updF (rowsF N cv rs) N (if b0 = true then some (v0, [x]) else none)) k (some (if b1 = true then (v1, rs k ++ [x]) else (cv k, rs k)))) W
  i1 : b1 = true → b0 = true
  kN : k < N
  hT : w.heap.size ≤ T
  ne : bx ≠ T
  cs : cur.size = N
  cc : ∀ j, j < N → cur[j]? = some (cv j)
section
variable {w W w2 w' : World} {T N bx k : Nat} {cur : Array Value} {cv : Nat → Value} {rs : Nat → List Int} {x x1 x2 : Int} {b0 b1 : Bool} {v0 v1 v' : Value}
theorem RowA.step (h : RowA w T N bx cur cv rs k x x1 x2 b0 b1 v0 v1 W) (hb : Below W.heap.size W w2) : RowA w T N bx cur cv rs k x x1 x2 b0 b1 v0 v1 w2 := ⟨h.mq.step hb, h.i1, h.kN, h.hT, h.ne, h.cs, h.cc⟩
theorem span_ne : 40 ≠ 2 := by decide
theorem rows_ne : 22 ≠ 2 := by decide
theorem RowA.start (h : CS w T N cv rs W) (hk : k < N) : ∃ cur, RowA w T N W.heap.size cur cv rs k x x1 x2 false false v0 v1 (W.alloc (.cells #[.int .i64 x1, .int .i64 x2] 40)) := by
  obtain ⟨⟨cur, h1, h2, h3⟩, h4⟩ := h
  have hlt : T < W.heap.size := blk_lt (h1.sb T _ (if_pos rfl))
  refine ⟨cur, ⟨(h1.obj span_ne).congr fun s => ?_, (fun e => by cases e), hk, h4, by omega, h2, h3⟩⟩
  by_cases c : s = k
  · subst c
    rw [updF_at]
    simp [rowsF, hk]
  · rw [updF_ne c]
    by_cases c2 : s = N
    · subst c2
      rw [updF_at]
      simp [rowsF]
    · rw [updF_ne c2]
theorem RowA.drewN {n : Nat} (h : RowA w T N bx cur cv rs k x x1 x2 b0 b1 v0 v1 W) : RowA w T N bx cur cv rs k x x1 x2 b0 b1 v0 v1 (W.drewN n) := h.step (bDrewN (Below.refl _ _))
theorem RowA.drew (h : RowA w T N bx cur cv rs k x x1 x2 b0 b1 v0 v1 W) : RowA w T N bx cur cv rs k x x1 x2 b0 b1 v0 v1 W.drew := h.step (Below.refl _ _).drew
theorem RowA.any (h : RowA w T N bx cur cv rs k x x1 x2 false false v0 v1 W) {u0 u1 : Value} {x' : Int} : RowA w T N bx cur cv rs k x' x1 x2 false false u0 u1 W := ⟨h.mq, (fun e => by cases e), h.kN, h.hT, h.ne, h.cs, h.cc⟩
theorem RowA.mk0 (h : RowA w T N bx cur cv rs k x x1 x2 false b1 v0 v1 W) : RowA w T N bx cur cv rs k x x1 x2 true b1 (.slice (some ⟨W.heap.size, 0, none⟩) 1 1) v1 (W.alloc (.cells #[.int .i64 x] 2)) := by
  have hN := h.kN
  obtain rfl : b1 = false := by
    cases b1 with
    | false => rfl
    | true => exact absurd (h.i1 rfl) (by decide)
  refine ⟨(h.mq.fresh1 N x).congr fun s => ?_, (fun e => rfl), h.kN, h.hT, h.ne, h.cs, h.cc⟩
  by_cases c : s = k
  · subst c
    rw [updF_at, updF_ne (show s ≠ N by omega), updF_at]
  · rw [updF_ne c]
    by_cases c2 : s = N
    · subst c2
      rw [updF_at, updF_at, if_pos rfl]
    · rw [updF_ne c2, updF_ne c2, updF_ne c, updF_ne c2]
theorem RowA.own (h : RowA w T N bx cur cv rs k x x1 x2 b0 false v0 v1 W) : IntOwn W (T + 1) (cv k) (rs k) := h.mq.own k _ _ updF_at
theorem RowA.src (h : RowA w T N bx cur cv rs k x x1 x2 true b1 v0 v1 W) : IntOwn W (T + 1) v0 [x] := h.mq.own N _ _ (by rw [updF_ne (by have := h.kN; omega), updF_at, if_pos rfl])
theorem RowA.mk1 (h : RowA w T N bx cur cv rs k x x1 x2 true false v0 v1 W) (ho : IntOwn w' (T + 1) v' (rs k ++ [x])) (hg : W.grownBy w' (cv k).ownBlock) (hat : v'.ownBlock = (cv k).ownBlock ∨ v'.ownBlock = some W.heap.size) : RowA w T N bx cur cv rs k x x1 x2 true true v0 v' w' := by
  refine ⟨(h.mq.app k updF_at ho hg hat).congr fun s => ?_, (fun e => rfl), h.kN, h.hT, h.ne, h.cs, h.cc⟩
  by_cases c : s = k
  · subst c
    rw [updF_at, updF_at, if_pos rfl]
  · rw [updF_ne c, updF_ne c, updF_ne c]
theorem RowA.cells (h : RowA w T N bx cur cv rs k x x1 x2 b0 b1 v0 v1 W) : W.cell? ⟨T, k, none⟩ = some (cv k) ∧ W.frozen? ⟨T, k, none⟩ = false ∧ T < W.heap.size ∧ W.cell? ⟨bx, 0, none⟩ = some (.int .i64 x1) ∧ W.cell? ⟨bx, 1, none⟩ = some (.int .i64 x2) ∧ bx < W.heap.size := by
  have h1 := h.mq.sb T _ ((updF_ne (Ne.symm h.ne)).trans (if_pos rfl))
  have h2 := h.mq.sb bx _ updF_at
  exact ⟨blk_cell h1 (h.cc k h.kN), blk_free h1, blk_lt h1, blk_cell h2 rfl, blk_cell h2 rfl, blk_lt h2⟩
theorem RowA.fin (h : RowA w T N bx cur cv rs k x x1 x2 true true v0 v1 W) : CS w T N (updF cv k v1) (updF rs k (rs k ++ [x])) (W.setCell ⟨T, k, none⟩ v1) := by
  have hk := h.kN
  have hTL : updF (tabL T cur) bx (some (.cells #[.int .i64 x1, .int .i64 x2] 40 (0, 0))) T = some (.cells cur 22 (0, 0)) := (updF_ne (Ne.symm h.ne)).trans (if_pos rfl)
  have h1 := h.mq.store (o := k) (u := v1) hTL h.hT rows_ne
  refine ⟨⟨cur.setIfInBounds k v1, (h1.less fun s p e => ?_).lessL fun p o e => ?_, by simpa using h.cs, fun j hj => ?_⟩, h.hT⟩
  · unfold rowsF at e
    split at e
    · rename_i hs
      by_cases c : s = k
      · subst c
        rw [updF_at] at e
        rw [updF_at] at e
        rw [updF_at]
        exact e
      · rw [updF_ne c] at e
        rw [updF_ne c] at e
        rw [updF_ne c, updF_ne (by omega)]
        unfold rowsF
        rw [if_pos hs]
        exact e
    · cases e
  · unfold tabL at e
    split at e
    · rename_i c
      subst c
      rw [updF_at]
      exact e
    · cases e
  · rw [Array.getElem?_setIfInBounds]
    by_cases c : k = j
    · subst c
      rw [if_pos rfl, updF_at, if_pos (by rw [h.cs]; exact hk)]
    · rw [if_neg c, updF_ne (Ne.symm c)]
      exact h.cc j hj
end
theorem rsF_next {l : List (Int × Int)} {n k i : Nat} (h : i < n) : rsF l n k (i + 1) = updF (rsF l n k i) k (rsF l n k i k ++ [cAt l n k i]) := by
  funext j
  by_cases c : j = k
  · subst c
    rw [updF_at]
    unfold rsF
    rw [if_neg (by omega), if_pos rfl, if_neg (by omega), if_pos rfl, cRow_take h]
  · rw [updF_ne c]
    unfold rsF
    by_cases c2 : j < k
    · rw [if_pos c2, if_pos c2]
    · rw [if_neg c2, if_neg c2, if_neg c, if_neg c]
theorem rsF_row {l : List (Int × Int)} {n k : Nat} : rsF l n k n = rsF l n (k + 1) 0 := by
  funext j
  unfold rsF
  by_cases c2 : j < k
  · rw [if_pos c2, if_pos (by omega)]
  · rw [if_neg c2]
    by_cases c : j = k
    · rw [if_pos c, if_pos (by omega), cRow_all, c]
    · rw [if_neg c, if_neg (by omega)]
      split <;> rfl
theorem rsF_len {l : List (Int × Int)} {n k i : Nat} (h : i ≤ n) : (rsF l n k i k).length ≤ n := by
  unfold rsF
  rw [if_neg (by omega), if_pos rfl, List.length_take, cRow_len]
  omega
theorem CS.tab {w W : World} {l : List (Int × Int)} {T N n : Nat} {cv : Nat → Value} (h : CS w T N cv (rsF l n N 0) W) : TabRow (.slice (some ⟨T, 0, none⟩) N N) N (cRow l n) W := by
  refine ⟨_, _, rfl, fun h0 => ⟨T, 0, rfl, (h.cell h0).2.2, fun k hk => ?_⟩⟩
  have h1 := (h.cell hk).1
  obtain ⟨⟨cur, h2, h3, h4⟩, -⟩ := h
  have h5 := h2.own k (cv k) (rsF l n N 0 k) (if_pos hk)
  rw [show rsF l n N 0 k = cRow l n k from if_pos hk] at h5
  obtain ⟨a, c, e, h6⟩ := h5.row
  rw [e] at h1
  exact ⟨a, c, by rw [Nat.zero_add]; exact h1, h6⟩
set_option maxHeartbeats 4000000 in
set_option maxRecDepth 20000 in
theorem Corners_row (v : Value) (l : List (Int × Int)) (w : World) (hl : l.length ≤ 1000000) (hv : SpRow v l w) :
    Calls Try.prog 34 #[v] w fun e w' => ∃ x, e = .returned (.tuple #[x, .int .i64 (checkB l)]) ∧ TabRow x (cornN l) (cRow l l.length) w' ∧ Below w.heap.size w w' := by
  have C := Lib.hid (fun w h => CheckBox_row v l w (by omega) h)
  have HV := Lib.hid hv
  obtain ⟨a, ca, rfl, hA⟩ := hv
  by_cases h0 : checkB l = 0
  · have hN : cornN l = 2 ^ l.length := if_pos h0
    obtain ⟨h8, -⟩ := checkB_ok.1 h0
    rw [h0] at C ⊢
    rw [hN]
    have HA := Lib.hid hA
    clear hA h0 hN hl
    obtain ⟨i0, hi, hz0, hz1, hz2⟩ := info_parts infoRI
    have hpow : 2 ^ l.length ≤ 256 := Nat.pow_le_pow_right (show 2 > 0 by decide) h8
    have hpos : 1 ≤ 2 ^ l.length := Nat.one_le_two_pow
    have hmin : min l.length 64 = l.length := by omega
    have hsh : IntKind.i64.wrap ((2 : Int) ^ l.length) = ((2 ^ l.length : Nat) : Int) := by
      rw [show ((2 : Int) ^ l.length) = ((2 ^ l.length : Nat) : Int) from by push_cast; rfl]
      exact Go.IntWalk.i64_in _ ⟨by omega, by omega⟩
    generalize 2 ^ l.length = N at *
    go_enter Try.func34, Try.ntmps34
    go_wp2_with (first | (go_at_call 19; refine (C.out _ HV.out).mono ?_; rintro e w1 ⟨rfl, hb1⟩) | (at_make; refine wpList_make_full _ rfl _ _ 57 rfl w1.heap.size 22 i0 (.slice none 0 0) 1 Try.underlying57 hi hz0 hz1 .i64 .i64 _ _ N rfl rfl rfl rfl (by rw [hz2]; omega) (by unfold maxLen; omega) (Nat.le_refl _) ?_; intro w2 hO hG))
    have hb2 : Below w.heap.size w w2 := hb1.grown hG hb1.size (by simp)
    have P0 := Lib.hid (CS.start (l := l) (n := l.length) hb1.size hb2 hO)
    obtain ⟨T, hT⟩ : ∃ T, T = w1.heap.size := ⟨_, rfl⟩
    rw [← hT] at P0
    rw [← hT]
    clear hT hO hG hb1 hb2 hsh hmin C
    go_loopw [20] (fun kk wr => ∃ (k : Nat) (cv : Nat → Value), k ≤ N ∧ kk = .int .i64 k ∧ Hid (CS w T N cv (rsF l l.length k 0) wr)) (fun kk _ => N - (intOf kk).toNat)
    case atStart => exact ⟨0, _, by omega, rfl, P0⟩
    case round =>
      obtain ⟨k, cv, hk, rfl, P1⟩ := hrel
      clear P0
      by_cases hlt : k < N
      · have hlt2 : (k : Int) < N := by omega
        go_wp2_with fail
        go_loopw [25] (fun ii wq => ∃ (i : Nat) (cv2 : Nat → Value), i ≤ l.length ∧ ii = .int .i64 i ∧ Hid (CS w T N cv2 (rsF l l.length k i) wq)) (fun ii _ => l.length - (intOf ii).toNat)
        case atStart => exact ⟨0, _, by omega, rfl, P1⟩
        case round =>
          obtain ⟨i, cv2, hi', rfl, P2⟩ := hrel
          clear P1
          by_cases hli : i < l.length
          · have hbel := P2.out.bel
            obtain ⟨bu, ou, rfl, hc⟩ := (HA.out.step hbel) (fun h => by rw [h] at hli; simp at hli)
            have q12 := hc.2 i hli
            have lu := hc.1
            have hli2 : (i : Int) < l.length := by omega
            have hi0 : (0 : Int) ≤ (i : Int) := by omega
            obtain ⟨m, hm⟩ : ∃ m : Nat, l.length - 1 - i = m := ⟨_, rfl⟩
            have hm1 : (l.length : Int) - 1 - i = m := by omega
            have hm2 : min m 64 = m := by omega
            have hx : cAt l l.length k i = if k / 2 ^ m % 2 = 0 then (l.getD i (0, 0)).1 else (l.getD i (0, 0)).2 := by rw [← hm]; rfl
            have HX := Lib.hid (rsF_next (l := l) (n := l.length) (k := k) hli)
            have HLn := Lib.hid (rsF_len (l := l) (n := l.length) (k := k) (i := i) (by omega))
            have hkb : (0 : Int) ≤ (k : Int) / 2 ^ m := Int.ediv_nonneg (by omega) (Int.le_of_lt (Int.pow_pos (by decide)))
            have hkc : (k : Int) / 2 ^ m ≤ 9223372036854775807 := Int.le_trans (Int.ediv_le_self _ (by omega)) (by omega)
            have hbit := and_one_i64 ((k : Int) / 2 ^ m) hkb hkc
            have hcast : (k : Int) / 2 ^ m % 2 = ((k / 2 ^ m % 2 : Nat) : Int) := by push_cast; rfl
            generalize cAt l l.length k i = x at *
            generalize l.getD i (0, 0) = sp at *
            obtain ⟨x1, x2⟩ := sp
            obtain ⟨q1, q2⟩ := q12
            dsimp only at q1 q2 hx
            clear hc hm
            by_cases hb0 : k / 2 ^ m % 2 = 0
            · rw [if_pos hb0] at hx
              have hx2 := hx.symm
              clear hx
              subst hx2
              have hbb : (bits BinOp.and IntKind.i64 ((k : Int) / 2 ^ m) 1 == 0) = true := by rw [hbit, hcast]; rw [hb0]; rfl
              clear hbit hcast hkb hkc hb0
              obtain ⟨cur, hR⟩ := RowA.start (x := x1) (x1 := x1) (x2 := x2) (v0 := undef) (v1 := undef) P2.out hlt
              have HR := Lib.hid hR
              clear hR
              go_upto_region 12 with fail
              refine region_effs 11 8 [(8, 47), (9, 48)] [(none, []), (none, []), (none, []), (none, []), (none, []), (none, []), (none, []), (none, []), (some 0, []), (some 1, [0]), (none, [])] [(39, (.slice (some ⟨T, 0, none⟩) N N)), (40, (.int .i64 (k : Int))), (41, (.slice (some ⟨T, 0, none⟩) N N)), (42, (.int .i64 (k : Int))), (43, (.pointer (some ⟨T, k, none⟩))), (44, (cv2 k)), (45, (.pointer (some ⟨wr.heap.size, 0, none⟩))), (46, (.int .i64 x1)), (49, (.pointer (some ⟨T, k, none⟩)))] (fun bsE vsE W => RowA w T N wr.heap.size cur cv2 (rsF l l.length k i) k x1 x1 x2 (bsE.getD 0 false) (bsE.getD 1 false) (vsE.getD 0 undef) (vsE.getD 1 undef) W) (by kernel_rfl) (by kernel_rfl) rfl (by kernel_rfl) (by kernel_rfl) (by simp) (by rfl) ?h0 ?each ?tail
              case h0 =>
                intro vsE hlv
                obtain ⟨v0, vsE0, rfl, hlv0⟩ := len_one hlv
                obtain ⟨v1, vsE1, rfl, hlv1⟩ := len_one hlv0
                obtain rfl := len_nil hlv1
                exact HR.out.any.drew
              case each =>
                simp only [List.take_succ_cons, List.take_zero, AllE]
                refine ⟨?_, ?_, ?_, ?_, ?_, ?_, ?_, ?_, ?_, ?_, ?_, trivial⟩
                · refine ⟨39, (.slice (some ⟨T, 0, none⟩) N N), rfl, by kernel_rfl, ?_⟩
                  intro bsE vsE W hlb hlv hnd h
                  obtain ⟨b0, bsE0, rfl, hlb0⟩ := len_one hlb
                  obtain ⟨v0, vsE0, rfl, hlv0⟩ := len_one hlv
                  obtain ⟨b1, bsE1, rfl, hlb1⟩ := len_one hlb0
                  obtain ⟨v1, vsE1, rfl, hlv1⟩ := len_one hlv0
                  obtain rfl := len_nil hlb1
                  obtain rfl := len_nil hlv1
                  replace h : RowA w T N wr.heap.size cur cv2 (rsF l l.length k i) k x1 x1 x2 b0 b1 v0 v1 W := h
                  clear hnd
                  have HST := Lib.hid h
                  obtain ⟨t0, t1, t2, t3, t4, t5⟩ := h.cells
                  intro K Q hK
                  simp only [putE, updAll, Act.put, List.setIfInBounds_toArray, List.set_cons_zero, List.set_cons_succ, List.set_nil] at hK ⊢
                  go_wp2_with (fail)
                  all_goals (first | exact hK _ (by first | exact h | exact h.step (by repeat' (first | exact Below.refl _ _ | apply bDrewN | apply bDrew))) | exact (by first | exact h | exact h.step (by repeat' (first | exact Below.refl _ _ | apply bDrewN | apply bDrew))))
                · refine ⟨40, (.int .i64 (k : Int)), rfl, by kernel_rfl, ?_⟩
                  intro bsE vsE W hlb hlv hnd h
                  obtain ⟨b0, bsE0, rfl, hlb0⟩ := len_one hlb
                  obtain ⟨v0, vsE0, rfl, hlv0⟩ := len_one hlv
                  obtain ⟨b1, bsE1, rfl, hlb1⟩ := len_one hlb0
                  obtain ⟨v1, vsE1, rfl, hlv1⟩ := len_one hlv0
                  obtain rfl := len_nil hlb1
                  obtain rfl := len_nil hlv1
                  replace h : RowA w T N wr.heap.size cur cv2 (rsF l l.length k i) k x1 x1 x2 b0 b1 v0 v1 W := h
                  clear hnd
                  have HST := Lib.hid h
                  obtain ⟨t0, t1, t2, t3, t4, t5⟩ := h.cells
                  intro K Q hK
                  simp only [putE, updAll, Act.put, List.setIfInBounds_toArray, List.set_cons_zero, List.set_cons_succ, List.set_nil] at hK ⊢
                  go_wp2_with (fail)
                  all_goals (first | exact hK _ (by first | exact h | exact h.step (by repeat' (first | exact Below.refl _ _ | apply bDrewN | apply bDrew))) | exact (by first | exact h | exact h.step (by repeat' (first | exact Below.refl _ _ | apply bDrewN | apply bDrew))))
                · refine ⟨41, (.slice (some ⟨T, 0, none⟩) N N), rfl, by kernel_rfl, ?_⟩
                  intro bsE vsE W hlb hlv hnd h
                  obtain ⟨b0, bsE0, rfl, hlb0⟩ := len_one hlb
                  obtain ⟨v0, vsE0, rfl, hlv0⟩ := len_one hlv
                  obtain ⟨b1, bsE1, rfl, hlb1⟩ := len_one hlb0
                  obtain ⟨v1, vsE1, rfl, hlv1⟩ := len_one hlv0
                  obtain rfl := len_nil hlb1
                  obtain rfl := len_nil hlv1
                  replace h : RowA w T N wr.heap.size cur cv2 (rsF l l.length k i) k x1 x1 x2 b0 b1 v0 v1 W := h
                  clear hnd
                  have HST := Lib.hid h
                  obtain ⟨t0, t1, t2, t3, t4, t5⟩ := h.cells
                  intro K Q hK
                  simp only [putE, updAll, Act.put, List.setIfInBounds_toArray, List.set_cons_zero, List.set_cons_succ, List.set_nil] at hK ⊢
                  go_wp2_with (fail)
                  all_goals (first | exact hK _ (by first | exact h | exact h.step (by repeat' (first | exact Below.refl _ _ | apply bDrewN | apply bDrew))) | exact (by first | exact h | exact h.step (by repeat' (first | exact Below.refl _ _ | apply bDrewN | apply bDrew))))
                · refine ⟨42, (.int .i64 (k : Int)), rfl, by kernel_rfl, ?_⟩
                  intro bsE vsE W hlb hlv hnd h
                  obtain ⟨b0, bsE0, rfl, hlb0⟩ := len_one hlb
                  obtain ⟨v0, vsE0, rfl, hlv0⟩ := len_one hlv
                  obtain ⟨b1, bsE1, rfl, hlb1⟩ := len_one hlb0
                  obtain ⟨v1, vsE1, rfl, hlv1⟩ := len_one hlv0
                  obtain rfl := len_nil hlb1
                  obtain rfl := len_nil hlv1
                  replace h : RowA w T N wr.heap.size cur cv2 (rsF l l.length k i) k x1 x1 x2 b0 b1 v0 v1 W := h
                  clear hnd
                  have HST := Lib.hid h
                  obtain ⟨t0, t1, t2, t3, t4, t5⟩ := h.cells
                  intro K Q hK
                  simp only [putE, updAll, Act.put, List.setIfInBounds_toArray, List.set_cons_zero, List.set_cons_succ, List.set_nil] at hK ⊢
                  go_wp2_with (fail)
                  all_goals (first | exact hK _ (by first | exact h | exact h.step (by repeat' (first | exact Below.refl _ _ | apply bDrewN | apply bDrew))) | exact (by first | exact h | exact h.step (by repeat' (first | exact Below.refl _ _ | apply bDrewN | apply bDrew))))
                · refine ⟨43, (.pointer (some ⟨T, k, none⟩)), rfl, by kernel_rfl, ?_⟩
                  intro bsE vsE W hlb hlv hnd h
                  obtain ⟨b0, bsE0, rfl, hlb0⟩ := len_one hlb
                  obtain ⟨v0, vsE0, rfl, hlv0⟩ := len_one hlv
                  obtain ⟨b1, bsE1, rfl, hlb1⟩ := len_one hlb0
                  obtain ⟨v1, vsE1, rfl, hlv1⟩ := len_one hlv0
                  obtain rfl := len_nil hlb1
                  obtain rfl := len_nil hlv1
                  replace h : RowA w T N wr.heap.size cur cv2 (rsF l l.length k i) k x1 x1 x2 b0 b1 v0 v1 W := h
                  clear hnd
                  have HST := Lib.hid h
                  obtain ⟨t0, t1, t2, t3, t4, t5⟩ := h.cells
                  intro K Q hK
                  simp only [putE, updAll, Act.put, List.setIfInBounds_toArray, List.set_cons_zero, List.set_cons_succ, List.set_nil] at hK ⊢
                  go_wp2_with (fail)
                  all_goals (first | exact hK _ (by first | exact h | exact h.step (by repeat' (first | exact Below.refl _ _ | apply bDrewN | apply bDrew))) | exact (by first | exact h | exact h.step (by repeat' (first | exact Below.refl _ _ | apply bDrewN | apply bDrew))))
                · refine ⟨44, (cv2 k), rfl, by kernel_rfl, ?_⟩
                  intro bsE vsE W hlb hlv hnd h
                  obtain ⟨b0, bsE0, rfl, hlb0⟩ := len_one hlb
                  obtain ⟨v0, vsE0, rfl, hlv0⟩ := len_one hlv
                  obtain ⟨b1, bsE1, rfl, hlb1⟩ := len_one hlb0
                  obtain ⟨v1, vsE1, rfl, hlv1⟩ := len_one hlv0
                  obtain rfl := len_nil hlb1
                  obtain rfl := len_nil hlv1
                  replace h : RowA w T N wr.heap.size cur cv2 (rsF l l.length k i) k x1 x1 x2 b0 b1 v0 v1 W := h
                  clear hnd
                  have HST := Lib.hid h
                  obtain ⟨t0, t1, t2, t3, t4, t5⟩ := h.cells
                  intro K Q hK
                  simp only [putE, updAll, Act.put, List.setIfInBounds_toArray, List.set_cons_zero, List.set_cons_succ, List.set_nil] at hK ⊢
                  go_wp2_with (fail)
                  all_goals (first | exact hK _ (by first | exact h | exact h.step (by repeat' (first | exact Below.refl _ _ | apply bDrewN | apply bDrew))) | exact (by first | exact h | exact h.step (by repeat' (first | exact Below.refl _ _ | apply bDrewN | apply bDrew))))
                · refine ⟨45, (.pointer (some ⟨wr.heap.size, 0, none⟩)), rfl, by kernel_rfl, ?_⟩
                  intro bsE vsE W hlb hlv hnd h
                  obtain ⟨b0, bsE0, rfl, hlb0⟩ := len_one hlb
                  obtain ⟨v0, vsE0, rfl, hlv0⟩ := len_one hlv
                  obtain ⟨b1, bsE1, rfl, hlb1⟩ := len_one hlb0
                  obtain ⟨v1, vsE1, rfl, hlv1⟩ := len_one hlv0
                  obtain rfl := len_nil hlb1
                  obtain rfl := len_nil hlv1
                  replace h : RowA w T N wr.heap.size cur cv2 (rsF l l.length k i) k x1 x1 x2 b0 b1 v0 v1 W := h
                  clear hnd
                  have HST := Lib.hid h
                  obtain ⟨t0, t1, t2, t3, t4, t5⟩ := h.cells
                  intro K Q hK
                  simp only [putE, updAll, Act.put, List.setIfInBounds_toArray, List.set_cons_zero, List.set_cons_succ, List.set_nil] at hK ⊢
                  go_wp2_with (fail)
                  all_goals (first | exact hK _ (by first | exact h | exact h.step (by repeat' (first | exact Below.refl _ _ | apply bDrewN | apply bDrew))) | exact (by first | exact h | exact h.step (by repeat' (first | exact Below.refl _ _ | apply bDrewN | apply bDrew))))
                · refine ⟨46, (.int .i64 x1), rfl, by kernel_rfl, ?_⟩
                  intro bsE vsE W hlb hlv hnd h
                  obtain ⟨b0, bsE0, rfl, hlb0⟩ := len_one hlb
                  obtain ⟨v0, vsE0, rfl, hlv0⟩ := len_one hlv
                  obtain ⟨b1, bsE1, rfl, hlb1⟩ := len_one hlb0
                  obtain ⟨v1, vsE1, rfl, hlv1⟩ := len_one hlv0
                  obtain rfl := len_nil hlb1
                  obtain rfl := len_nil hlv1
                  replace h : RowA w T N wr.heap.size cur cv2 (rsF l l.length k i) k x1 x1 x2 b0 b1 v0 v1 W := h
                  clear hnd
                  have HST := Lib.hid h
                  obtain ⟨t0, t1, t2, t3, t4, t5⟩ := h.cells
                  intro K Q hK
                  simp only [putE, updAll, Act.put, List.setIfInBounds_toArray, List.set_cons_zero, List.set_cons_succ, List.set_nil] at hK ⊢
                  go_wp2_with (fail)
                  all_goals (first | exact hK _ (by first | exact h | exact h.step (by repeat' (first | exact Below.refl _ _ | apply bDrewN | apply bDrew))) | exact (by first | exact h | exact h.step (by repeat' (first | exact Below.refl _ _ | apply bDrewN | apply bDrew))))
                · refine ⟨47, rfl, ?_⟩
                  intro bsE vsE W hlb hlv hnd hbk h
                  obtain ⟨b0, bsE0, rfl, hlb0⟩ := len_one hlb
                  obtain ⟨v0, vsE0, rfl, hlv0⟩ := len_one hlv
                  obtain ⟨b1, bsE1, rfl, hlb1⟩ := len_one hlb0
                  obtain ⟨v1, vsE1, rfl, hlv1⟩ := len_one hlv0
                  obtain rfl := len_nil hlb1
                  obtain rfl := len_nil hlv1
                  obtain rfl : b0 = false := hbk
                  replace h : RowA w T N wr.heap.size cur cv2 (rsF l l.length k i) k x1 x1 x2 false b1 v0 v1 W := h
                  clear hnd
                  have HST := Lib.hid h
                  obtain ⟨t0, t1, t2, t3, t4, t5⟩ := h.cells
                  intro K Q hK
                  simp only [putE, updAll, Act.put, List.setIfInBounds_toArray, List.set_cons_zero, List.set_cons_succ, List.set_nil] at hK ⊢
                  go_wp2_with fail
                  all_goals (first | exact hK _ _ h.mk0 | exact h.mk0)
                · refine ⟨48, rfl, ?_⟩
                  intro bsE vsE W hlb hlv hnd hbk h
                  obtain ⟨b0, bsE0, rfl, hlb0⟩ := len_one hlb
                  obtain ⟨v0, vsE0, rfl, hlv0⟩ := len_one hlv
                  obtain ⟨b1, bsE1, rfl, hlb1⟩ := len_one hlb0
                  obtain ⟨v1, vsE1, rfl, hlv1⟩ := len_one hlv0
                  obtain rfl := len_nil hlb1
                  obtain rfl := len_nil hlv1
                  obtain rfl : b0 = true := hnd 0 (by simp)
                  obtain rfl : b1 = false := hbk
                  replace h : RowA w T N wr.heap.size cur cv2 (rsF l l.length k i) k x1 x1 x2 true false v0 v1 W := h
                  clear hnd
                  have HST := Lib.hid h
                  obtain ⟨a0, c0, e0, hat0⟩ := IntOwn.row h.src; subst e0; have hsz := h.mq.sz; have hown := h.own
                  intro K Q hK
                  simp only [putE, updAll, Act.put, List.setIfInBounds_toArray, List.set_cons_zero, List.set_cons_succ, List.set_nil] at hK ⊢
                  refine wp_app_copy _ (.tmp 44) (.tmp 47) rfl (cv2 k) rfl (T + 1) (rsF l l.length k i k) hown a0 [x1] c0 rfl hat0 (by have := HLn.out; simp; omega) hsz ?_
                  intro v' w' ho hg hat
                  first | exact hK _ _ (h.mk1 ho hg hat) | exact h.mk1 ho hg hat
                · refine ⟨49, (.pointer (some ⟨T, k, none⟩)), rfl, by kernel_rfl, ?_⟩
                  intro bsE vsE W hlb hlv hnd h
                  obtain ⟨b0, bsE0, rfl, hlb0⟩ := len_one hlb
                  obtain ⟨v0, vsE0, rfl, hlv0⟩ := len_one hlv
                  obtain ⟨b1, bsE1, rfl, hlb1⟩ := len_one hlb0
                  obtain ⟨v1, vsE1, rfl, hlv1⟩ := len_one hlv0
                  obtain rfl := len_nil hlb1
                  obtain rfl := len_nil hlv1
                  replace h : RowA w T N wr.heap.size cur cv2 (rsF l l.length k i) k x1 x1 x2 b0 b1 v0 v1 W := h
                  clear hnd
                  have HST := Lib.hid h
                  obtain ⟨t0, t1, t2, t3, t4, t5⟩ := h.cells
                  intro K Q hK
                  simp only [putE, updAll, Act.put, List.setIfInBounds_toArray, List.set_cons_zero, List.set_cons_succ, List.set_nil] at hK ⊢
                  go_wp2_with (fail)
                  all_goals (first | exact hK _ (by first | exact h | exact h.step (by repeat' (first | exact Below.refl _ _ | apply bDrewN | apply bDrew))) | exact (by first | exact h | exact h.step (by repeat' (first | exact Below.refl _ _ | apply bDrewN | apply bDrew))))
              case tail =>
                intro vsE W hlv h
                obtain ⟨v0, vsE0, rfl, hlv0⟩ := len_one hlv
                obtain ⟨v1, vsE1, rfl, hlv1⟩ := len_one hlv0
                obtain rfl := len_nil hlv1
                replace h : RowA w T N wr.heap.size cur cv2 (rsF l l.length k i) k x1 x1 x2 true true v0 v1 W := h
                have HST := Lib.hid h
                obtain ⟨t0, t1, t2, t3, t4, t5⟩ := h.cells
                obtain ⟨a1, c1, e1, -⟩ := IntOwn.row (h.mq.own k v1 _ updF_at)
                have hF := Lib.hid h.fin
                subst e1
                refine wpOp_plain rfl rfl ?_
                simp only [putE, updAll, Act.put, List.setIfInBounds_toArray, List.set_cons_zero, List.set_cons_succ, List.set_nil]
                go_wp2_with fail
                go_roundw
                case rel => exact ⟨i + 1, _, by omega, by push_cast; rfl, by unfold Hid; rw [HX.out]; (first | exact hF.out | (have q := hF.out; simp only [List.length_append, List.length_singleton] at q; exact q))⟩
                case measure => (simp [intOf]; omega)
            · rw [if_neg hb0] at hx
              have hx2 := hx.symm
              clear hx
              subst hx2
              have hbb : (bits BinOp.and IntKind.i64 ((k : Int) / 2 ^ m) 1 == 0) = false := by rw [hbit, hcast]; rw [show k / 2 ^ m % 2 = 1 by omega]; rfl
              clear hbit hcast hkb hkc hb0
              obtain ⟨cur, hR⟩ := RowA.start (x := x2) (x1 := x1) (x2 := x2) (v0 := undef) (v1 := undef) P2.out hlt
              have HR := Lib.hid hR
              clear hR
              go_upto_region 13 with fail
              refine region_effs 11 8 [(8, 58), (9, 59)] [(none, []), (none, []), (none, []), (none, []), (none, []), (none, []), (none, []), (none, []), (some 0, []), (some 1, [0]), (none, [])] [(50, (.slice (some ⟨T, 0, none⟩) N N)), (51, (.int .i64 (k : Int))), (52, (.slice (some ⟨T, 0, none⟩) N N)), (53, (.int .i64 (k : Int))), (54, (.pointer (some ⟨T, k, none⟩))), (55, (cv2 k)), (56, (.pointer (some ⟨wr.heap.size, 1, none⟩))), (57, (.int .i64 x2)), (60, (.pointer (some ⟨T, k, none⟩)))] (fun bsE vsE W => RowA w T N wr.heap.size cur cv2 (rsF l l.length k i) k x2 x1 x2 (bsE.getD 0 false) (bsE.getD 1 false) (vsE.getD 0 undef) (vsE.getD 1 undef) W) (by kernel_rfl) (by kernel_rfl) rfl (by kernel_rfl) (by kernel_rfl) (by simp) (by rfl) ?h0 ?each ?tail
              case h0 =>
                intro vsE hlv
                obtain ⟨v0, vsE0, rfl, hlv0⟩ := len_one hlv
                obtain ⟨v1, vsE1, rfl, hlv1⟩ := len_one hlv0
                obtain rfl := len_nil hlv1
                exact HR.out.any.drew
              case each =>
                simp only [List.take_succ_cons, List.take_zero, AllE]
                refine ⟨?_, ?_, ?_, ?_, ?_, ?_, ?_, ?_, ?_, ?_, ?_, trivial⟩
                · refine ⟨50, (.slice (some ⟨T, 0, none⟩) N N), rfl, by kernel_rfl, ?_⟩
                  intro bsE vsE W hlb hlv hnd h
                  obtain ⟨b0, bsE0, rfl, hlb0⟩ := len_one hlb
                  obtain ⟨v0, vsE0, rfl, hlv0⟩ := len_one hlv
                  obtain ⟨b1, bsE1, rfl, hlb1⟩ := len_one hlb0
                  obtain ⟨v1, vsE1, rfl, hlv1⟩ := len_one hlv0
                  obtain rfl := len_nil hlb1
                  obtain rfl := len_nil hlv1
                  replace h : RowA w T N wr.heap.size cur cv2 (rsF l l.length k i) k x2 x1 x2 b0 b1 v0 v1 W := h
                  clear hnd
                  have HST := Lib.hid h
                  obtain ⟨t0, t1, t2, t3, t4, t5⟩ := h.cells
                  intro K Q hK
                  simp only [putE, updAll, Act.put, List.setIfInBounds_toArray, List.set_cons_zero, List.set_cons_succ, List.set_nil] at hK ⊢
                  go_wp2_with (fail)
                  all_goals (first | exact hK _ (by first | exact h | exact h.step (by repeat' (first | exact Below.refl _ _ | apply bDrewN | apply bDrew))) | exact (by first | exact h | exact h.step (by repeat' (first | exact Below.refl _ _ | apply bDrewN | apply bDrew))))
                · refine ⟨51, (.int .i64 (k : Int)), rfl, by kernel_rfl, ?_⟩
                  intro bsE vsE W hlb hlv hnd h
                  obtain ⟨b0, bsE0, rfl, hlb0⟩ := len_one hlb
                  obtain ⟨v0, vsE0, rfl, hlv0⟩ := len_one hlv
                  obtain ⟨b1, bsE1, rfl, hlb1⟩ := len_one hlb0
                  obtain ⟨v1, vsE1, rfl, hlv1⟩ := len_one hlv0
                  obtain rfl := len_nil hlb1
                  obtain rfl := len_nil hlv1
                  replace h : RowA w T N wr.heap.size cur cv2 (rsF l l.length k i) k x2 x1 x2 b0 b1 v0 v1 W := h
                  clear hnd
                  have HST := Lib.hid h
                  obtain ⟨t0, t1, t2, t3, t4, t5⟩ := h.cells
                  intro K Q hK
                  simp only [putE, updAll, Act.put, List.setIfInBounds_toArray, List.set_cons_zero, List.set_cons_succ, List.set_nil] at hK ⊢
                  go_wp2_with (fail)
                  all_goals (first | exact hK _ (by first | exact h | exact h.step (by repeat' (first | exact Below.refl _ _ | apply bDrewN | apply bDrew))) | exact (by first | exact h | exact h.step (by repeat' (first | exact Below.refl _ _ | apply bDrewN | apply bDrew))))
                · refine ⟨52, (.slice (some ⟨T, 0, none⟩) N N), rfl, by kernel_rfl, ?_⟩
                  intro bsE vsE W hlb hlv hnd h
                  obtain ⟨b0, bsE0, rfl, hlb0⟩ := len_one hlb
                  obtain ⟨v0, vsE0, rfl, hlv0⟩ := len_one hlv
                  obtain ⟨b1, bsE1, rfl, hlb1⟩ := len_one hlb0
                  obtain ⟨v1, vsE1, rfl, hlv1⟩ := len_one hlv0
                  obtain rfl := len_nil hlb1
                  obtain rfl := len_nil hlv1
                  replace h : RowA w T N wr.heap.size cur cv2 (rsF l l.length k i) k x2 x1 x2 b0 b1 v0 v1 W := h
                  clear hnd
                  have HST := Lib.hid h
                  obtain ⟨t0, t1, t2, t3, t4, t5⟩ := h.cells
                  intro K Q hK
                  simp only [putE, updAll, Act.put, List.setIfInBounds_toArray, List.set_cons_zero, List.set_cons_succ, List.set_nil] at hK ⊢
                  go_wp2_with (fail)
                  all_goals (first | exact hK _ (by first | exact h | exact h.step (by repeat' (first | exact Below.refl _ _ | apply bDrewN | apply bDrew))) | exact (by first | exact h | exact h.step (by repeat' (first | exact Below.refl _ _ | apply bDrewN | apply bDrew))))
                · refine ⟨53, (.int .i64 (k : Int)), rfl, by kernel_rfl, ?_⟩
                  intro bsE vsE W hlb hlv hnd h
                  obtain ⟨b0, bsE0, rfl, hlb0⟩ := len_one hlb
                  obtain ⟨v0, vsE0, rfl, hlv0⟩ := len_one hlv
                  obtain ⟨b1, bsE1, rfl, hlb1⟩ := len_one hlb0
                  obtain ⟨v1, vsE1, rfl, hlv1⟩ := len_one hlv0
                  obtain rfl := len_nil hlb1
                  obtain rfl := len_nil hlv1
                  replace h : RowA w T N wr.heap.size cur cv2 (rsF l l.length k i) k x2 x1 x2 b0 b1 v0 v1 W := h
                  clear hnd
                  have HST := Lib.hid h
                  obtain ⟨t0, t1, t2, t3, t4, t5⟩ := h.cells
                  intro K Q hK
                  simp only [putE, updAll, Act.put, List.setIfInBounds_toArray, List.set_cons_zero, List.set_cons_succ, List.set_nil] at hK ⊢
                  go_wp2_with (fail)
                  all_goals (first | exact hK _ (by first | exact h | exact h.step (by repeat' (first | exact Below.refl _ _ | apply bDrewN | apply bDrew))) | exact (by first | exact h | exact h.step (by repeat' (first | exact Below.refl _ _ | apply bDrewN | apply bDrew))))
                · refine ⟨54, (.pointer (some ⟨T, k, none⟩)), rfl, by kernel_rfl, ?_⟩
                  intro bsE vsE W hlb hlv hnd h
                  obtain ⟨b0, bsE0, rfl, hlb0⟩ := len_one hlb
                  obtain ⟨v0, vsE0, rfl, hlv0⟩ := len_one hlv
                  obtain ⟨b1, bsE1, rfl, hlb1⟩ := len_one hlb0
                  obtain ⟨v1, vsE1, rfl, hlv1⟩ := len_one hlv0
                  obtain rfl := len_nil hlb1
                  obtain rfl := len_nil hlv1
                  replace h : RowA w T N wr.heap.size cur cv2 (rsF l l.length k i) k x2 x1 x2 b0 b1 v0 v1 W := h
                  clear hnd
                  have HST := Lib.hid h
                  obtain ⟨t0, t1, t2, t3, t4, t5⟩ := h.cells
                  intro K Q hK
                  simp only [putE, updAll, Act.put, List.setIfInBounds_toArray, List.set_cons_zero, List.set_cons_succ, List.set_nil] at hK ⊢
                  go_wp2_with (fail)
                  all_goals (first | exact hK _ (by first | exact h | exact h.step (by repeat' (first | exact Below.refl _ _ | apply bDrewN | apply bDrew))) | exact (by first | exact h | exact h.step (by repeat' (first | exact Below.refl _ _ | apply bDrewN | apply bDrew))))
                · refine ⟨55, (cv2 k), rfl, by kernel_rfl, ?_⟩
                  intro bsE vsE W hlb hlv hnd h
                  obtain ⟨b0, bsE0, rfl, hlb0⟩ := len_one hlb
                  obtain ⟨v0, vsE0, rfl, hlv0⟩ := len_one hlv
                  obtain ⟨b1, bsE1, rfl, hlb1⟩ := len_one hlb0
                  obtain ⟨v1, vsE1, rfl, hlv1⟩ := len_one hlv0
                  obtain rfl := len_nil hlb1
                  obtain rfl := len_nil hlv1
                  replace h : RowA w T N wr.heap.size cur cv2 (rsF l l.length k i) k x2 x1 x2 b0 b1 v0 v1 W := h
                  clear hnd
                  have HST := Lib.hid h
                  obtain ⟨t0, t1, t2, t3, t4, t5⟩ := h.cells
                  intro K Q hK
                  simp only [putE, updAll, Act.put, List.setIfInBounds_toArray, List.set_cons_zero, List.set_cons_succ, List.set_nil] at hK ⊢
                  go_wp2_with (fail)
                  all_goals (first | exact hK _ (by first | exact h | exact h.step (by repeat' (first | exact Below.refl _ _ | apply bDrewN | apply bDrew))) | exact (by first | exact h | exact h.step (by repeat' (first | exact Below.refl _ _ | apply bDrewN | apply bDrew))))
                · refine ⟨56, (.pointer (some ⟨wr.heap.size, 1, none⟩)), rfl, by kernel_rfl, ?_⟩
                  intro bsE vsE W hlb hlv hnd h
                  obtain ⟨b0, bsE0, rfl, hlb0⟩ := len_one hlb
                  obtain ⟨v0, vsE0, rfl, hlv0⟩ := len_one hlv
                  obtain ⟨b1, bsE1, rfl, hlb1⟩ := len_one hlb0
                  obtain ⟨v1, vsE1, rfl, hlv1⟩ := len_one hlv0
                  obtain rfl := len_nil hlb1
                  obtain rfl := len_nil hlv1
                  replace h : RowA w T N wr.heap.size cur cv2 (rsF l l.length k i) k x2 x1 x2 b0 b1 v0 v1 W := h
                  clear hnd
                  have HST := Lib.hid h
                  obtain ⟨t0, t1, t2, t3, t4, t5⟩ := h.cells
                  intro K Q hK
                  simp only [putE, updAll, Act.put, List.setIfInBounds_toArray, List.set_cons_zero, List.set_cons_succ, List.set_nil] at hK ⊢
                  go_wp2_with (fail)
                  all_goals (first | exact hK _ (by first | exact h | exact h.step (by repeat' (first | exact Below.refl _ _ | apply bDrewN | apply bDrew))) | exact (by first | exact h | exact h.step (by repeat' (first | exact Below.refl _ _ | apply bDrewN | apply bDrew))))
                · refine ⟨57, (.int .i64 x2), rfl, by kernel_rfl, ?_⟩
                  intro bsE vsE W hlb hlv hnd h
                  obtain ⟨b0, bsE0, rfl, hlb0⟩ := len_one hlb
                  obtain ⟨v0, vsE0, rfl, hlv0⟩ := len_one hlv
                  obtain ⟨b1, bsE1, rfl, hlb1⟩ := len_one hlb0
                  obtain ⟨v1, vsE1, rfl, hlv1⟩ := len_one hlv0
                  obtain rfl := len_nil hlb1
                  obtain rfl := len_nil hlv1
                  replace h : RowA w T N wr.heap.size cur cv2 (rsF l l.length k i) k x2 x1 x2 b0 b1 v0 v1 W := h
                  clear hnd
                  have HST := Lib.hid h
                  obtain ⟨t0, t1, t2, t3, t4, t5⟩ := h.cells
                  intro K Q hK
                  simp only [putE, updAll, Act.put, List.setIfInBounds_toArray, List.set_cons_zero, List.set_cons_succ, List.set_nil] at hK ⊢
                  go_wp2_with (fail)
                  all_goals (first | exact hK _ (by first | exact h | exact h.step (by repeat' (first | exact Below.refl _ _ | apply bDrewN | apply bDrew))) | exact (by first | exact h | exact h.step (by repeat' (first | exact Below.refl _ _ | apply bDrewN | apply bDrew))))
                · refine ⟨58, rfl, ?_⟩
                  intro bsE vsE W hlb hlv hnd hbk h
                  obtain ⟨b0, bsE0, rfl, hlb0⟩ := len_one hlb
                  obtain ⟨v0, vsE0, rfl, hlv0⟩ := len_one hlv
                  obtain ⟨b1, bsE1, rfl, hlb1⟩ := len_one hlb0
                  obtain ⟨v1, vsE1, rfl, hlv1⟩ := len_one hlv0
                  obtain rfl := len_nil hlb1
                  obtain rfl := len_nil hlv1
                  obtain rfl : b0 = false := hbk
                  replace h : RowA w T N wr.heap.size cur cv2 (rsF l l.length k i) k x2 x1 x2 false b1 v0 v1 W := h
                  clear hnd
                  have HST := Lib.hid h
                  obtain ⟨t0, t1, t2, t3, t4, t5⟩ := h.cells
                  intro K Q hK
                  simp only [putE, updAll, Act.put, List.setIfInBounds_toArray, List.set_cons_zero, List.set_cons_succ, List.set_nil] at hK ⊢
                  go_wp2_with fail
                  all_goals (first | exact hK _ _ h.mk0 | exact h.mk0)
                · refine ⟨59, rfl, ?_⟩
                  intro bsE vsE W hlb hlv hnd hbk h
                  obtain ⟨b0, bsE0, rfl, hlb0⟩ := len_one hlb
                  obtain ⟨v0, vsE0, rfl, hlv0⟩ := len_one hlv
                  obtain ⟨b1, bsE1, rfl, hlb1⟩ := len_one hlb0
                  obtain ⟨v1, vsE1, rfl, hlv1⟩ := len_one hlv0
                  obtain rfl := len_nil hlb1
                  obtain rfl := len_nil hlv1
                  obtain rfl : b0 = true := hnd 0 (by simp)
                  obtain rfl : b1 = false := hbk
                  replace h : RowA w T N wr.heap.size cur cv2 (rsF l l.length k i) k x2 x1 x2 true false v0 v1 W := h
                  clear hnd
                  have HST := Lib.hid h
                  obtain ⟨a0, c0, e0, hat0⟩ := IntOwn.row h.src; subst e0; have hsz := h.mq.sz; have hown := h.own
                  intro K Q hK
                  simp only [putE, updAll, Act.put, List.setIfInBounds_toArray, List.set_cons_zero, List.set_cons_succ, List.set_nil] at hK ⊢
                  refine wp_app_copy _ (.tmp 55) (.tmp 58) rfl (cv2 k) rfl (T + 1) (rsF l l.length k i k) hown a0 [x2] c0 rfl hat0 (by have := HLn.out; simp; omega) hsz ?_
                  intro v' w' ho hg hat
                  first | exact hK _ _ (h.mk1 ho hg hat) | exact h.mk1 ho hg hat
                · refine ⟨60, (.pointer (some ⟨T, k, none⟩)), rfl, by kernel_rfl, ?_⟩
                  intro bsE vsE W hlb hlv hnd h
                  obtain ⟨b0, bsE0, rfl, hlb0⟩ := len_one hlb
                  obtain ⟨v0, vsE0, rfl, hlv0⟩ := len_one hlv
                  obtain ⟨b1, bsE1, rfl, hlb1⟩ := len_one hlb0
                  obtain ⟨v1, vsE1, rfl, hlv1⟩ := len_one hlv0
                  obtain rfl := len_nil hlb1
                  obtain rfl := len_nil hlv1
                  replace h : RowA w T N wr.heap.size cur cv2 (rsF l l.length k i) k x2 x1 x2 b0 b1 v0 v1 W := h
                  clear hnd
                  have HST := Lib.hid h
                  obtain ⟨t0, t1, t2, t3, t4, t5⟩ := h.cells
                  intro K Q hK
                  simp only [putE, updAll, Act.put, List.setIfInBounds_toArray, List.set_cons_zero, List.set_cons_succ, List.set_nil] at hK ⊢
                  go_wp2_with (fail)
                  all_goals (first | exact hK _ (by first | exact h | exact h.step (by repeat' (first | exact Below.refl _ _ | apply bDrewN | apply bDrew))) | exact (by first | exact h | exact h.step (by repeat' (first | exact Below.refl _ _ | apply bDrewN | apply bDrew))))
              case tail =>
                intro vsE W hlv h
                obtain ⟨v0, vsE0, rfl, hlv0⟩ := len_one hlv
                obtain ⟨v1, vsE1, rfl, hlv1⟩ := len_one hlv0
                obtain rfl := len_nil hlv1
                replace h : RowA w T N wr.heap.size cur cv2 (rsF l l.length k i) k x2 x1 x2 true true v0 v1 W := h
                have HST := Lib.hid h
                obtain ⟨t0, t1, t2, t3, t4, t5⟩ := h.cells
                obtain ⟨a1, c1, e1, -⟩ := IntOwn.row (h.mq.own k v1 _ updF_at)
                have hF := Lib.hid h.fin
                subst e1
                refine wpOp_plain rfl rfl ?_
                simp only [putE, updAll, Act.put, List.setIfInBounds_toArray, List.set_cons_zero, List.set_cons_succ, List.set_nil]
                go_wp2_with fail
                go_roundw
                case rel => exact ⟨i + 1, _, by omega, by push_cast; rfl, by unfold Hid; rw [HX.out]; (first | exact hF.out | (have q := hF.out; simp only [List.length_append, List.length_singleton] at q; exact q))⟩
                case measure => (simp [intOf]; omega)
          · obtain rfl : i = l.length := by omega
            have hle : ¬ ((l.length : Nat) : Int) < l.length := by omega
            have P3 := Lib.hid (show CS w T N cv2 (rsF l l.length (k + 1) 0) wr by rw [← rsF_row]; exact P2.out)
            clear P2
            go_wp2_with fail
            go_roundw
            case rel => exact ⟨k + 1, _, by omega, by push_cast; rfl, P3⟩
            case measure => (simp [intOf]; omega)
      · obtain rfl : k = N := by omega
        have hle : ¬ (k : Int) < k := by omega
        have hb := P1.out.bel
        go_wp2_with fail
        exact bodyPost_ret (v := .tuple #[.slice (some ⟨T, 0, none⟩) k k, .int .i64 0]) (by simp only [results, Try.results34]; go_simp) rfl ⟨_, rfl, P1.out.tab, (by repeat' (first | exact Below.refl _ _ | assumption | apply bDrewN | apply bDrew | apply bAlloc | (refine bSet ?_ ?_ _) | (refine bStep ?_ (by assumption)) | omega | (simp <;> omega)))⟩
  · have hN : cornN l = 0 := if_neg h0
    rw [hN]
    generalize checkB l = z at *
    clear hN hA
    go_enter Try.func34, Try.ntmps34
    go_wp2_with (go_at_call 19; refine (C.out _ HV.out).mono ?_; rintro e w1 ⟨rfl, hb1⟩)
    exact bodyPost_ret (v := .tuple #[.slice none 0 0, .int .i64 z]) (by simp only [results, Try.results34]; go_simp) rfl ⟨_, rfl, TabRow.nil, (by repeat' (first | exact Below.refl _ _ | assumption | apply bDrewN | apply bDrew | apply bAlloc | (refine bSet ?_ ?_ _) | (refine bStep ?_ (by assumption)) | omega | (simp <;> omega)))⟩

end Go.Proofs.Ytkldlmbccdfjdaa

/-
  Corners of the reference: the state of its inner loop.
-/
set_option linter.unusedSimpArgs false
set_option linter.unusedVariables false
namespace Go.Proofs.Ytkldlmbccdfjdaa
open Go.RowKit
theorem IntOwn.base {W : World} {B B2 : Nat} {v : Value} {xs : List Int} (h : IntOwn W B v xs) (hB : B2 ≤ B) : IntOwn W B2 v xs := by
  obtain ⟨h1, h2⟩ := h
  refine ⟨h1, ?_⟩
  rcases h2 with h2 | ⟨g, cap, cur, q1, q2, q3⟩
  · exact Or.inl h2
  · exact Or.inr ⟨g, cap, cur, q1, by omega, q3⟩
theorem tab_type {W : World} {B n : Nat} {v : Value} {vs : List Value} {g : Nat} (h : W.ownsRow B 22 1 v n vs) (hg : v.ownBlock = some g) : ∃ cur, W.heap[g]? = some (.cells cur 22 (0, 0)) := by
  rcases h.2 with ⟨rfl, -⟩ | ⟨g', cap, cur, rfl, -, h3, -⟩
  · cases hg
  · obtain rfl := Option.some.inj hg
    exact ⟨cur, h3⟩
theorem own_far_tab {W : World} {B B2 n : Nat} {v u : Value} {vs : List Value} {xs : List Int} (h : W.ownsRow B 22 1 v n vs) (ho : IntOwn W B2 u xs) : u.ownBlock = none ∨ u.ownBlock ≠ v.ownBlock := by
  cases hu : u.ownBlock with
  | none => exact Or.inl rfl
  | some g =>
    refine Or.inr fun e => ?_
    obtain ⟨c1, q1⟩ := own_type ho hu
    obtain ⟨c2, q2⟩ := tab_type h e.symm
    rw [q1] at q2
    have := Option.some.inj q2
    injection this with _ h2 _
    exact rows_ne h2.symm
/-- The rows that are being made for the next span. -/
structure NX (w0 : World) (F : Nat → List Int) (k : Nat) (nx : Value) (W : World) : Prop where
  bel : Below w0.heap.size w0 W
  row : ∃ vs, W.ownsRow w0.heap.size 22 1 nx (2 * k) vs ∧ ∀ j, j < 2 * k → ∃ v, vs[j]? = some v ∧ IntOwn W w0.heap.size v (F j)
section
variable {w0 w3 W w2 w' : World} {F : Nat → List Int} {k : Nat} {nx : Value}
theorem NX.start (hb : Below w0.heap.size w0 W) : NX w0 F 0 (.slice none 0 0) W := ⟨hb, [], ⟨rfl, Or.inl ⟨rfl, rfl⟩⟩, fun j hj => by omega⟩
theorem NX.step (h : NX w0 F k nx W) (hb : Below W.heap.size W w2) : NX w0 F k nx w2 := by
  obtain ⟨h1, vs, h2, h3⟩ := h
  refine ⟨bStep h1 hb, vs, own_step h2 hb, fun j hj => ?_⟩
  obtain ⟨v, q1, q2⟩ := h3 j hj
  exact ⟨v, q1, q2.step hb⟩
theorem NX.tab (h : NX w0 F k nx W) : ∃ a c, nx = .slice a (2 * k) c ∧ TabAt a (2 * k) F W := by
  obtain ⟨h1, vs, ⟨h2, h3⟩, h4⟩ := h
  rcases h3 with ⟨rfl, h5⟩ | ⟨g, cap, cur, rfl, q2, q3, q4, q5, q6, q7⟩
  · rw [h5]
    exact ⟨none, 0, rfl, fun h => absurd h (by omega)⟩
  · refine ⟨_, _, rfl, fun _ => ⟨g, 0, rfl, blk_lt q3, fun j hj => ?_⟩⟩
    obtain ⟨v, e1, e2⟩ := h4 j hj
    obtain ⟨a, c, rfl, e3⟩ := e2.row
    refine ⟨a, c, ?_, e3⟩
    rw [Nat.zero_add]
    refine blk_cell q3 ?_
    rw [← q7, List.getElem?_take_of_lt (by omega)] at e1
    simpa using e1
/-- Two rows more. -/
theorem NX.more {W3 : World} {n2 va vb : Value} (h : NX w0 F k nx W3) (hb : Below W3.heap.size W3 W) (hg : W.grownBy w' nx.ownBlock) (ha : IntOwn W w0.heap.size va (F (2 * k))) (hb2 : IntOwn W w0.heap.size vb (F (2 * k + 1)))
    (vs : List Value) (hvs : W.ownsRow w0.heap.size 22 1 nx (2 * k) vs) (hrows : ∀ j, j < 2 * k → ∃ v, vs[j]? = some v ∧ IntOwn W w0.heap.size v (F j)) (ho : w'.ownsRow w0.heap.size 22 1 n2 (2 * k + 2) (vs ++ [va, vb])) : NX w0 F (k + 1) n2 w' := by
  have hkept : ∀ v xs, IntOwn W w0.heap.size v xs → IntOwn w' w0.heap.size v xs := fun v xs hv => World.ownsRow.kept hv hg (own_far_tab hvs hv)
  have hl : vs.length = 2 * k := by have := hvs.1; omega
  refine ⟨(bStep h.bel hb).grown hg (bStep h.bel hb).size (own_ge hvs), vs ++ [va, vb], ho, fun j hj => ?_⟩
  by_cases c : j < 2 * k
  · obtain ⟨v, q1, q2⟩ := hrows j c
    exact ⟨v, by rw [List.getElem?_append_left (by omega)]; exact q1, hkept _ _ q2⟩
  · by_cases c2 : j = 2 * k
    · subst c2
      exact ⟨va, by rw [List.getElem?_append_right (by omega), hl]; simp, hkept _ _ ha⟩
    · obtain rfl : j = 2 * k + 1 := by omega
      exact ⟨vb, by rw [List.getElem?_append_right (by omega), hl]; simp, hkept _ _ hb2⟩
end
def chF (R : List Int) (x : Int) (b0 b1 b3 : Bool) (v0 v1 v3 : Value) : Option (Value × List Int) := bif b3 then some (v3, R ++ [x]) else bif b1 then some (v1, R) else bif b0 then some (v0, []) else none
def ch1 (x : Int) (b2 : Bool) (v2 : Value) : Option (Value × List Int) := bif b2 then some (v2, [x]) else none
def chR (R : List Int) (x y : Int) (b0 b1 b2 b3 b4 b5 b6 b7 : Bool) (v0 v1 v2 v3 v4 v5 v6 v7 : Value) : Nat → Option (Value × List Int)
  | 0 => chF R x b0 b1 b3 v0 v1 v3
  | 1 => ch1 x b2 v2
  | 2 => chF R y b4 b5 b7 v4 v5 v7
  | 3 => ch1 y b6 v6
  | _ => none
/-- The state of the region. -/
structure RX (w0 w3 : World) (F : Nat → List Int) (k : Nat) (nx : Value) (R : List Int) (x y : Int) (b0 b1 b2 b3 b4 b5 b6 b7 b8 b9 : Bool) (v0 v1 v2 v3 v4 v5 v6 v7 v8 v9 : Value) (W : World) : Prop where
  nx3 : NX w0 F k nx w3
  bel0 : Below w0.heap.size w0 W
  mq : b9 = false → MQ w3 w3.heap.size (fun _ => none) (chR R x y b0 b1 b2 b3 b4 b5 b6 b7 v0 v1 v2 v3 v4 v5 v6 v7) W
  i1 : b1 = true → b0 = true
  i3 : b3 = true → b1 = true ∧ b2 = true
  i5 : b5 = true → b4 = true
  i7 : b7 = true → b5 = true ∧ b6 = true
  i8 : b8 = true → b3 = true ∧ b7 = true
  i9 : b9 = true → b8 = true
  e8 : b8 = true → b9 = false → ∃ g, v8 = .slice (some ⟨g, 0, none⟩) 2 2 ∧ W.cell? ⟨g, 0, none⟩ = some v3 ∧ W.cell? ⟨g, 1, none⟩ = some v7
  fin : b9 = true → NX w0 F (k + 1) v9 W
section
variable {w0 w3 W w2 w' : World} {F : Nat → List Int} {k : Nat} {nx u : Value} {R : List Int} {x y : Int} {b0 b1 b2 b3 b4 b5 b6 b7 b8 b9 : Bool} {v0 v1 v2 v3 v4 v5 v6 v7 v8 v9 : Value}
theorem ch_none : ∀ (s : Nat) (p : Value × List Int), chR R x y false false false false false false false false v0 v1 v2 v3 v4 v5 v6 v7 s = some p → False
  | 0, _, e => by cases e
  | 1, _, e => by cases e
  | 2, _, e => by cases e
  | 3, _, e => by cases e
  | _ + 4, _, e => by cases e
theorem RX.start (h : NX w0 F k nx w3) : RX w0 w3 F k nx R x y false false false false false false false false false false v0 v1 v2 v3 v4 v5 v6 v7 v8 v9 w3.drew := by
  refine ⟨h, h.bel.drew, fun _ => ⟨Nat.le_refl _, fun p o e => ?_, (Below.refl _ _).drew, Nat.le_refl _, fun p o e => ?_, fun s v xs e => (ch_none s _ e).elim, fun s s' v xs v' xs' _ e _ => (ch_none s _ e).elim⟩, ?_, ?_, ?_, ?_, ?_, ?_, ?_, ?_⟩
  · cases e
  · cases e
  all_goals (intro e; cases e)
theorem RX.step (h : RX w0 w3 F k nx R x y b0 b1 b2 b3 b4 b5 b6 b7 b8 b9 v0 v1 v2 v3 v4 v5 v6 v7 v8 v9 W) (hb : Below W.heap.size W w2) : RX w0 w3 F k nx R x y b0 b1 b2 b3 b4 b5 b6 b7 b8 b9 v0 v1 v2 v3 v4 v5 v6 v7 v8 v9 w2 :=
  ⟨h.nx3, bStep h.bel0 hb, fun e => (h.mq e).step hb, h.i1, h.i3, h.i5, h.i7, h.i8, h.i9, fun e e' => by
    obtain ⟨g, q1, q2, q3⟩ := h.e8 e e'
    exact ⟨g, q1, cell_step q2 hb, cell_step q3 hb⟩, fun e => (h.fin e).step hb⟩
/-- No flag behind one that is not set. -/
theorem RX.n1 (h : RX w0 w3 F k nx R x y b0 false b2 b3 b4 b5 b6 b7 b8 b9 v0 v1 v2 v3 v4 v5 v6 v7 v8 v9 W) : b3 = false := by
  cases b3 with
  | false => rfl
  | true => exact absurd (h.i3 rfl).1 (by decide)
theorem RX.n2 (h : RX w0 w3 F k nx R x y b0 b1 false b3 b4 b5 b6 b7 b8 b9 v0 v1 v2 v3 v4 v5 v6 v7 v8 v9 W) : b3 = false := by
  cases b3 with
  | false => rfl
  | true => exact absurd (h.i3 rfl).2 (by decide)
theorem RX.n0 (h : RX w0 w3 F k nx R x y false b1 b2 b3 b4 b5 b6 b7 b8 b9 v0 v1 v2 v3 v4 v5 v6 v7 v8 v9 W) : b1 = false := by
  cases b1 with
  | false => rfl
  | true => exact absurd (h.i1 rfl) (by decide)
theorem RX.n4 (h : RX w0 w3 F k nx R x y b0 b1 b2 b3 false b5 b6 b7 b8 b9 v0 v1 v2 v3 v4 v5 v6 v7 v8 v9 W) : b5 = false := by
  cases b5 with
  | false => rfl
  | true => exact absurd (h.i5 rfl) (by decide)
theorem RX.n5 (h : RX w0 w3 F k nx R x y b0 b1 b2 b3 b4 false b6 b7 b8 b9 v0 v1 v2 v3 v4 v5 v6 v7 v8 v9 W) : b7 = false := by
  cases b7 with
  | false => rfl
  | true => exact absurd (h.i7 rfl).1 (by decide)
theorem RX.n6 (h : RX w0 w3 F k nx R x y b0 b1 b2 b3 b4 b5 false b7 b8 b9 v0 v1 v2 v3 v4 v5 v6 v7 v8 v9 W) : b7 = false := by
  cases b7 with
  | false => rfl
  | true => exact absurd (h.i7 rfl).2 (by decide)
theorem RX.n3 (h : RX w0 w3 F k nx R x y b0 b1 b2 false b4 b5 b6 b7 b8 b9 v0 v1 v2 v3 v4 v5 v6 v7 v8 v9 W) : b8 = false := by
  cases b8 with
  | false => rfl
  | true => exact absurd (h.i8 rfl).1 (by decide)
theorem RX.n7 (h : RX w0 w3 F k nx R x y b0 b1 b2 b3 b4 b5 b6 false b8 b9 v0 v1 v2 v3 v4 v5 v6 v7 v8 v9 W) : b8 = false := by
  cases b8 with
  | false => rfl
  | true => exact absurd (h.i8 rfl).2 (by decide)
theorem RX.n8 (h : RX w0 w3 F k nx R x y b0 b1 b2 b3 b4 b5 b6 b7 false b9 v0 v1 v2 v3 v4 v5 v6 v7 v8 v9 W) : b9 = false := by
  cases b9 with
  | false => rfl
  | true => exact absurd (h.i9 rfl) (by decide)
theorem c4 {f g : Nat → Option (Value × List Int)} (h0 : f 0 = g 0) (h1 : f 1 = g 1) (h2 : f 2 = g 2) (h3 : f 3 = g 3) (h4 : ∀ n, f (n + 4) = g (n + 4)) : ∀ s, f s = g s
  | 0 => h0
  | 1 => h1
  | 2 => h2
  | 3 => h3
  | n + 4 => h4 n
theorem RX.mk0 (h : RX w0 w3 F k nx R x y false b1 b2 b3 b4 b5 b6 b7 b8 b9 v0 v1 v2 v3 v4 v5 v6 v7 v8 v9 W) : RX w0 w3 F k nx R x y true b1 b2 b3 b4 b5 b6 b7 b8 b9 (.slice (some ⟨W.heap.size, 0, none⟩) 0 0) v1 v2 v3 v4 v5 v6 v7 v8 v9 (W.alloc (.cells #[] 2)) := by
  obtain rfl := h.n0
  obtain rfl := h.n1
  obtain rfl := h.n3
  obtain rfl := h.n8
  refine ⟨h.nx3, bAlloc h.bel0 _, fun _ => ((h.mq rfl).fresh0 0).congr ?_, (fun e => by cases e), (fun e => by cases e), h.i5, h.i7, (fun e => by cases e), (fun e => by cases e), (fun e => by cases e), (fun e => by cases e)⟩
  refine c4 ?_ ?_ ?_ ?_ (fun n => ?_) <;> simp [updF, chR, chF, ch1]
theorem RX.own0 (h : RX w0 w3 F k nx R x y true false b2 b3 b4 b5 b6 b7 b8 b9 v0 v1 v2 v3 v4 v5 v6 v7 v8 v9 W) : IntOwn W w3.heap.size v0 [] := by
  obtain rfl := h.n1
  obtain rfl := h.n3
  obtain rfl := h.n8
  exact (h.mq rfl).own 0 _ _ rfl
theorem RX.mk1 (h : RX w0 w3 F k nx R x y true false b2 b3 b4 b5 b6 b7 b8 b9 v0 v1 v2 v3 v4 v5 v6 v7 v8 v9 W) (ho : IntOwn w' w3.heap.size u ([] ++ R)) (hg : W.grownBy w' v0.ownBlock) (hat : u.ownBlock = v0.ownBlock ∨ u.ownBlock = some W.heap.size) : RX w0 w3 F k nx R x y true true b2 b3 b4 b5 b6 b7 b8 b9 v0 u v2 v3 v4 v5 v6 v7 v8 v9 w' := by
  have hge := own_ge h.own0
  obtain rfl := h.n1
  obtain rfl := h.n3
  obtain rfl := h.n8
  refine ⟨h.nx3, h.bel0.grown hg h.bel0.size (fun q hq => by have := hge q hq; have := h.nx3.bel.size; omega), fun _ => ((h.mq rfl).app 0 (v := v0) (xs := []) rfl (show IntOwn w' _ u R from ho) hg hat).congr ?_, (fun _ => rfl), (fun e => by cases e), h.i5, h.i7, (fun e => by cases e), (fun e => by cases e), (fun e => by cases e), (fun e => by cases e)⟩
  refine c4 ?_ ?_ ?_ ?_ (fun n => ?_) <;> simp [updF, chR, chF, ch1]
theorem RX.mk2 (h : RX w0 w3 F k nx R x y b0 b1 false b3 b4 b5 b6 b7 b8 b9 v0 v1 v2 v3 v4 v5 v6 v7 v8 v9 W) : RX w0 w3 F k nx R x y b0 b1 true b3 b4 b5 b6 b7 b8 b9 v0 v1 (.slice (some ⟨W.heap.size, 0, none⟩) 1 1) v3 v4 v5 v6 v7 v8 v9 (W.alloc (.cells #[.int .i64 x] 2)) := by
  obtain rfl := h.n2
  obtain rfl := h.n3
  obtain rfl := h.n8
  refine ⟨h.nx3, bAlloc h.bel0 _, fun _ => ((h.mq rfl).fresh1 1 x).congr ?_, h.i1, (fun e => by cases e), h.i5, h.i7, (fun e => by cases e), (fun e => by cases e), (fun e => by cases e), (fun e => by cases e)⟩
  refine c4 ?_ ?_ ?_ ?_ (fun n => ?_) <;> simp [updF, chR, chF, ch1]
theorem RX.own1 (h : RX w0 w3 F k nx R x y b0 true b2 false b4 b5 b6 b7 b8 b9 v0 v1 v2 v3 v4 v5 v6 v7 v8 v9 W) : IntOwn W w3.heap.size v1 R := by
  obtain rfl := h.n3
  obtain rfl := h.n8
  exact (h.mq rfl).own 0 _ _ rfl
theorem RX.src2 (h : RX w0 w3 F k nx R x y b0 b1 true false b4 b5 b6 b7 b8 b9 v0 v1 v2 v3 v4 v5 v6 v7 v8 v9 W) : IntOwn W w3.heap.size v2 [x] := by
  obtain rfl := h.n3
  obtain rfl := h.n8
  exact (h.mq rfl).own 1 _ _ rfl
theorem RX.mk3 (h : RX w0 w3 F k nx R x y b0 true true false b4 b5 b6 b7 b8 b9 v0 v1 v2 v3 v4 v5 v6 v7 v8 v9 W) (ho : IntOwn w' w3.heap.size u (R ++ [x])) (hg : W.grownBy w' v1.ownBlock) (hat : u.ownBlock = v1.ownBlock ∨ u.ownBlock = some W.heap.size) : RX w0 w3 F k nx R x y b0 true true true b4 b5 b6 b7 b8 b9 v0 v1 v2 u v4 v5 v6 v7 v8 v9 w' := by
  have hge := own_ge h.own1
  obtain rfl := h.n3
  obtain rfl := h.n8
  refine ⟨h.nx3, h.bel0.grown hg h.bel0.size (fun q hq => by have := hge q hq; have := h.nx3.bel.size; omega), fun _ => ((h.mq rfl).app 0 (v := v1) (xs := R) rfl ho hg hat).congr ?_, h.i1, (fun _ => ⟨rfl, rfl⟩), h.i5, h.i7, (fun e => by cases e), (fun e => by cases e), (fun e => by cases e), (fun e => by cases e)⟩
  refine c4 ?_ ?_ ?_ ?_ (fun n => ?_) <;> simp [updF, chR, chF, ch1]
theorem RX.mk4 (h : RX w0 w3 F k nx R x y b0 b1 b2 b3 false b5 b6 b7 b8 b9 v0 v1 v2 v3 v4 v5 v6 v7 v8 v9 W) : RX w0 w3 F k nx R x y b0 b1 b2 b3 true b5 b6 b7 b8 b9 v0 v1 v2 v3 (.slice (some ⟨W.heap.size, 0, none⟩) 0 0) v5 v6 v7 v8 v9 (W.alloc (.cells #[] 2)) := by
  obtain rfl := h.n4
  obtain rfl := h.n5
  obtain rfl := h.n7
  obtain rfl := h.n8
  refine ⟨h.nx3, bAlloc h.bel0 _, fun _ => ((h.mq rfl).fresh0 2).congr ?_, h.i1, h.i3, (fun e => by cases e), (fun e => by cases e), (fun e => by cases e), (fun e => by cases e), (fun e => by cases e), (fun e => by cases e)⟩
  refine c4 ?_ ?_ ?_ ?_ (fun n => ?_) <;> simp [updF, chR, chF, ch1]
theorem RX.own4 (h : RX w0 w3 F k nx R x y b0 b1 b2 b3 true false b6 b7 b8 b9 v0 v1 v2 v3 v4 v5 v6 v7 v8 v9 W) : IntOwn W w3.heap.size v4 [] := by
  obtain rfl := h.n5
  obtain rfl := h.n7
  obtain rfl := h.n8
  exact (h.mq rfl).own 2 _ _ rfl
theorem RX.mk5 (h : RX w0 w3 F k nx R x y b0 b1 b2 b3 true false b6 b7 b8 b9 v0 v1 v2 v3 v4 v5 v6 v7 v8 v9 W) (ho : IntOwn w' w3.heap.size u ([] ++ R)) (hg : W.grownBy w' v4.ownBlock) (hat : u.ownBlock = v4.ownBlock ∨ u.ownBlock = some W.heap.size) : RX w0 w3 F k nx R x y b0 b1 b2 b3 true true b6 b7 b8 b9 v0 v1 v2 v3 v4 u v6 v7 v8 v9 w' := by
  have hge := own_ge h.own4
  obtain rfl := h.n5
  obtain rfl := h.n7
  obtain rfl := h.n8
  refine ⟨h.nx3, h.bel0.grown hg h.bel0.size (fun q hq => by have := hge q hq; have := h.nx3.bel.size; omega), fun _ => ((h.mq rfl).app 2 (v := v4) (xs := []) rfl (show IntOwn w' _ u R from ho) hg hat).congr ?_, h.i1, h.i3, (fun _ => rfl), (fun e => by cases e), (fun e => by cases e), (fun e => by cases e), (fun e => by cases e), (fun e => by cases e)⟩
  refine c4 ?_ ?_ ?_ ?_ (fun n => ?_) <;> simp [updF, chR, chF, ch1]
theorem RX.mk6 (h : RX w0 w3 F k nx R x y b0 b1 b2 b3 b4 b5 false b7 b8 b9 v0 v1 v2 v3 v4 v5 v6 v7 v8 v9 W) : RX w0 w3 F k nx R x y b0 b1 b2 b3 b4 b5 true b7 b8 b9 v0 v1 v2 v3 v4 v5 (.slice (some ⟨W.heap.size, 0, none⟩) 1 1) v7 v8 v9 (W.alloc (.cells #[.int .i64 y] 2)) := by
  obtain rfl := h.n6
  obtain rfl := h.n7
  obtain rfl := h.n8
  refine ⟨h.nx3, bAlloc h.bel0 _, fun _ => ((h.mq rfl).fresh1 3 y).congr ?_, h.i1, h.i3, h.i5, (fun e => by cases e), (fun e => by cases e), (fun e => by cases e), (fun e => by cases e), (fun e => by cases e)⟩
  refine c4 ?_ ?_ ?_ ?_ (fun n => ?_) <;> simp [updF, chR, chF, ch1]
theorem RX.own5 (h : RX w0 w3 F k nx R x y b0 b1 b2 b3 b4 true b6 false b8 b9 v0 v1 v2 v3 v4 v5 v6 v7 v8 v9 W) : IntOwn W w3.heap.size v5 R := by
  obtain rfl := h.n7
  obtain rfl := h.n8
  exact (h.mq rfl).own 2 _ _ rfl
theorem RX.src6 (h : RX w0 w3 F k nx R x y b0 b1 b2 b3 b4 b5 true false b8 b9 v0 v1 v2 v3 v4 v5 v6 v7 v8 v9 W) : IntOwn W w3.heap.size v6 [y] := by
  obtain rfl := h.n7
  obtain rfl := h.n8
  exact (h.mq rfl).own 3 _ _ rfl
theorem RX.mk7 (h : RX w0 w3 F k nx R x y b0 b1 b2 b3 b4 true true false b8 b9 v0 v1 v2 v3 v4 v5 v6 v7 v8 v9 W) (ho : IntOwn w' w3.heap.size u (R ++ [y])) (hg : W.grownBy w' v5.ownBlock) (hat : u.ownBlock = v5.ownBlock ∨ u.ownBlock = some W.heap.size) : RX w0 w3 F k nx R x y b0 b1 b2 b3 b4 true true true b8 b9 v0 v1 v2 v3 v4 v5 v6 u v8 v9 w' := by
  have hge := own_ge h.own5
  obtain rfl := h.n7
  obtain rfl := h.n8
  refine ⟨h.nx3, h.bel0.grown hg h.bel0.size (fun q hq => by have := hge q hq; have := h.nx3.bel.size; omega), fun _ => ((h.mq rfl).app 2 (v := v5) (xs := R) rfl ho hg hat).congr ?_, h.i1, h.i3, h.i5, (fun _ => ⟨rfl, rfl⟩), (fun e => by cases e), (fun e => by cases e), (fun e => by cases e), (fun e => by cases e)⟩
  refine c4 ?_ ?_ ?_ ?_ (fun n => ?_) <;> simp [updF, chR, chF, ch1]
theorem RX.rows (h : RX w0 w3 F k nx R x y b0 b1 b2 true b4 b5 b6 true b8 false v0 v1 v2 v3 v4 v5 v6 v7 v8 v9 W) : IntOwn W w3.heap.size v3 (R ++ [x]) ∧ IntOwn W w3.heap.size v7 (R ++ [y]) := ⟨(h.mq rfl).own 0 _ _ rfl, (h.mq rfl).own 2 _ _ rfl⟩
theorem RX.mk8 (h : RX w0 w3 F k nx R x y b0 b1 b2 true b4 b5 b6 true false b9 v0 v1 v2 v3 v4 v5 v6 v7 v8 v9 W) : RX w0 w3 F k nx R x y b0 b1 b2 true b4 b5 b6 true true b9 v0 v1 v2 v3 v4 v5 v6 v7 (.slice (some ⟨W.heap.size, 0, none⟩) 2 2) v9 (W.alloc (.cells #[v3, v7] 22)) := by
  obtain rfl := h.n8
  exact ⟨h.nx3, bAlloc h.bel0 _, fun _ => (h.mq rfl).step bAlZ, h.i1, h.i3, h.i5, h.i7, (fun _ => ⟨rfl, rfl⟩), (fun e => by cases e), fun _ _ => ⟨_, rfl, blk_cell (blk_new W _) rfl, blk_cell (blk_new W _) rfl⟩, (fun e => by cases e)⟩
theorem RX.mk9 (h : RX w0 w3 F k nx R x y b0 b1 b2 b3 b4 b5 b6 b7 true false v0 v1 v2 v3 v4 v5 v6 v7 v8 v9 W) (hF1 : F (2 * k) = R ++ [x]) (hF2 : F (2 * k + 1) = R ++ [y]) (vs : List Value) (hvs : W.ownsRow w0.heap.size 22 1 nx (2 * k) vs) (hrows : ∀ j, j < 2 * k → ∃ v, vs[j]? = some v ∧ IntOwn W w0.heap.size v (F j))
    (ho : w'.ownsRow w0.heap.size 22 1 u (2 * k + 2) (vs ++ [v3, v7])) (hg : W.grownBy w' nx.ownBlock) : RX w0 w3 F k nx R x y b0 b1 b2 b3 b4 b5 b6 b7 true true v0 v1 v2 v3 v4 v5 v6 v7 v8 u w' := by
  obtain ⟨rfl, rfl⟩ := h.i8 rfl
  obtain ⟨r1, r2⟩ := h.rows
  have hs := h.nx3.bel.size
  exact ⟨h.nx3, h.bel0.grown hg h.bel0.size (own_ge hvs), (fun e => by cases e), h.i1, h.i3, h.i5, h.i7, h.i8, (fun _ => rfl), (fun _ e => by cases e), fun _ => h.nx3.more (h.mq rfl).bel hg (by rw [hF1]; exact r1.base hs) (by rw [hF2]; exact r2.base hs) vs hvs hrows ho⟩
end
end Go.Proofs.Ytkldlmbccdfjdaa

/-
  Corners of the reference: the walk.
-/
set_option linter.unusedSimpArgs false
set_option linter.unusedVariables false
namespace Go.Proofs.Ytkldlmbccdfjdaa
open Go.RowKit
theorem two_boxesO {w : World} {o1 o2 : Obj} : ((w.alloc o1).alloc o2).heap[w.heap.size]? = some o1 ∧ ((w.alloc o1).alloc o2).heap[w.heap.size + 1]? = some o2 := by
  refine ⟨blk_alloc (blk_new w o1), ?_⟩
  have := blk_new (w.alloc o1) o2
  simpa using this
theorem two_cellsI {W : World} {g : Nat} {u v : Value} (h0 : W.cell? ⟨g, 0, none⟩ = some u) (h1 : W.cell? ⟨g, 1, none⟩ = some v) : ∀ (j : Nat) (q : Value), [u, v][j]? = some q → W.cell? ((⟨g, 0, none⟩ : Addr).add j) = some q := by
  intro j q hj
  match j, hj with
  | 0, hj => simp at hj; subst hj; simpa [Addr.add] using h0
  | 1, hj => simp at hj; subst hj; simpa [Addr.add] using h1
theorem tab_one {l : List (Int × Int)} {W : World} : TabAt (some ⟨W.heap.size + 1, 0, none⟩) (2 ^ 0) (cRow l 0) ((W.alloc (.cells #[] 2)).alloc (.cells #[.slice (some ⟨W.heap.size, 0, none⟩) 0 0] 22)) := fun _ => by
  have h := two_boxesO (w := W) (o1 := .cells #[] 2) (o2 := .cells #[.slice (some ⟨W.heap.size, 0, none⟩) 0 0] 22)
  refine ⟨W.heap.size + 1, 0, rfl, by simp, fun k hk => ?_⟩
  obtain rfl : k = 0 := by simpa using hk
  exact ⟨some ⟨W.heap.size, 0, none⟩, 0, blk_cell h.2 rfl, fun h => absurd (by simp [cRow]) h⟩
set_option maxHeartbeats 8000000 in
set_option maxRecDepth 20000 in
theorem RCorners_row (v : Value) (l : List (Int × Int)) (w : World) (hl : l.length ≤ 1000000) (hv : SpRow v l w) :
    Calls Try.prog 35 #[v] w fun e w' => ∃ x, e = .returned (.tuple #[x, .int .i64 (checkB l)]) ∧ TabRow x (cornN l) (cRow l l.length) w' ∧ Below w.heap.size w w' := by
  have C := Lib.hid (fun w h => RCheckBox_row v l w (by omega) h)
  have HV := Lib.hid hv
  obtain ⟨a, ca, rfl, hA⟩ := hv
  by_cases h0 : checkB l = 0
  · have hN : cornN l = 2 ^ l.length := if_pos h0
    obtain ⟨h8, -⟩ := checkB_ok.1 h0
    rw [h0] at C ⊢
    have HA := Lib.hid hA
    have HYtkldlmbccdfjdaa := Lib.hid hN
    generalize cornN l = Ytkldlmbccdfjdaa0 at *
    clear hA h0 hl hN
    obtain ⟨i0, hi, hz0, hz1, hz2⟩ := info_parts infoRI
    go_enter Try.func35, Try.ntmps35
    go_wp2_with (go_at_call 20; refine (C.out _ HV.out).mono ?_; rintro e w1 ⟨rfl, hb1⟩)
    have hbw : Below w.heap.size w ((w1.alloc (.cells #[] 2)).alloc (.cells #[.slice (some ⟨w1.heap.size, 0, none⟩) 0 0] 22)) := (by repeat' (first | exact Below.refl _ _ | assumption | apply bDrewN | apply bDrew | apply bAlloc | (refine bSet ?_ ?_ _) | (refine bStep ?_ (by assumption)) | omega | (simp <;> omega)))
    have HT1 := Lib.hid (tab_one (l := l) (W := w1))
    go_loopw [5, 6] (fun o ii wr => ∃ (i : Nat) (a : Option Addr) (c : Nat), i ≤ l.length ∧ ii = .int .i64 i ∧ o = .slice a (2 ^ i) c ∧ Hid (TabAt a (2 ^ i) (cRow l i) wr) ∧ Hid (Below w.heap.size w wr)) (fun _ ii _ => l.length - (intOf ii).toNat)
    case atStart => exact ⟨0, _, _, by omega, rfl, rfl, HT1, hbw⟩
    case round =>
      obtain ⟨i, a5, c5, hi', rfl, rfl, HT, HB⟩ := hrel
      clear HT1 hbw
      have hbel := HB.out
      by_cases hli : i < l.length
      · have hpow : 2 ^ i ≤ 256 := Nat.le_trans (Nat.pow_le_pow_right (by decide) (show i ≤ 8 by omega)) (by decide)
        have hpos : 0 < 2 ^ i := Nat.pos_of_ne_zero (by have := Nat.one_le_two_pow (n := i); omega)
        have hP2 : Hid (2 ^ (i + 1) = 2 * 2 ^ i) := by unfold Hid; rw [Nat.pow_succ]; omega
        obtain ⟨bu, ou, rfl, hc⟩ := (HA.out.step hbel) (fun h => by rw [h] at hli; simp at hli)
        have q12 := hc.2 i hli
        have lu := hc.1
        have hli2 : (i : Int) < l.length := by omega
        have hi0 : (0 : Int) ≤ (i : Int) := by omega
        have HF1 := Lib.hid (fun k => cRow_next l i k 0 (by decide))
        have HF2 := Lib.hid (fun k => cRow_next l i k 1 (by decide))
        have HLn := Lib.hid (fun k => cRow_len l i k)
        obtain ⟨tb, tq, rfl, ht1, ht2⟩ := HT.out hpos
        have HT2 := Lib.hid ht2
        generalize l.getD i (0, 0) = sp at *
        obtain ⟨x1, x2⟩ := sp
        obtain ⟨q1, q2⟩ := q12
        dsimp only at q1 q2 HF1 HF2
        have hil : i ≤ 8 := by omega
        clear hc ht2 HT
        generalize hP : 2 ^ i = P at *
        have HPe := Lib.hid hP
        clear hP
        obtain ⟨w0, hw0⟩ : ∃ w0, w0 = wr := ⟨_, rfl⟩
        rw [← hw0] at q1 q2 lu ht1 HT2 HB
        clear hbel
        go_wp2_with fail
        go_loopw [7, 8] (fun nx kk wq => ∃ (k : Nat) (nv : Value), k ≤ P ∧ kk = .int .i64 k ∧ nx = nv ∧ Hid (NX w0 (cRow l (i + 1)) k nv wq)) (fun _ kk _ => P - (intOf kk).toNat)
        case atStart => exact ⟨0, _, by omega, rfl, rfl, Lib.hid (by rw [hw0]; exact NX.start (Below.refl _ _))⟩
        case round =>
          obtain ⟨k, nx, hk, rfl, e7, P1⟩ := hrel
          have e8 := e7.symm
          clear e7
          subst e8
          have hb0 := P1.out.bel
          by_cases hlk : k < P
          · have hlk2 : (k : Int) < P := by omega
            have hk0 : (0 : Int) ≤ (k : Int) := by omega
            obtain ⟨ak, ck, ht3, hat⟩ := HT2.out k hlk
            have hF1' : cRow l (i + 1) (2 * k) = cRow l i k ++ [x1] := by simpa using HF1.out k
            have hF2' : cRow l (i + 1) (2 * k + 1) = cRow l i k ++ [x2] := by simpa using HF2.out k
            have HFa := Lib.hid hF1'
            have HFb := Lib.hid hF2'
            have HRl := Lib.hid (show (cRow l i k).length ≤ 8 by rw [HLn.out k]; omega)
            have HAt := Lib.hid hat
            clear hF1' hF2' HT2 HF1 HF2 HLn hat
            generalize cRow l i k = R at *
            have t1 := (hb0.cell (p := ⟨tb, tq + k, none⟩) ht1).trans ht3
            have t2 := (hb0.cell (p := ⟨bu, ou + i * 2, none⟩) lu).trans q1
            have t3 := (hb0.cell (p := ⟨bu, ou + i * 2 + 1, none⟩) lu).trans q2
            have t4 := hb0.size
            go_upto_region 12 with fail
            refine region_effs 29 12 [(1, 29), (6, 34), (12, 40), (13, 41), (14, 42), (19, 47), (25, 53), (26, 54), (27, 55), (28, 56)] [(none, []), (some 0, []), (none, []), (none, []), (none, []), (none, []), (some 1, [0]), (none, []), (none, []), (none, []), (none, []), (none, []), (some 2, []), (some 3, [1, 2]), (some 4, []), (none, []), (none, []), (none, []), (none, []), (some 5, [4]), (none, []), (none, []), (none, []), (none, []), (none, []), (some 6, []), (some 7, [5, 6]), (some 8, [3, 7]), (some 9, [8])] [(28, nx), (30, (.slice (some ⟨tb, tq, none⟩) P c5)), (31, (.int .i64 (k : Int))), (32, (.pointer (some ⟨tb, tq + k, none⟩))), (33, (.slice ak R.length ck)), (35, (.slice (some ⟨bu, ou, none⟩) l.length ca)), (36, (.int .i64 (i : Int))), (37, (.pointer (some ⟨bu, ou + i * 2, none⟩))), (38, (.pointer (some ⟨bu, ou + i * 2, none⟩))), (39, (.int .i64 x1)), (43, (.slice (some ⟨tb, tq, none⟩) P c5)), (44, (.int .i64 (k : Int))), (45, (.pointer (some ⟨tb, tq + k, none⟩))), (46, (.slice ak R.length ck)), (48, (.slice (some ⟨bu, ou, none⟩) l.length ca)), (49, (.int .i64 (i : Int))), (50, (.pointer (some ⟨bu, ou + i * 2, none⟩))), (51, (.pointer (some ⟨bu, ou + i * 2 + 1, none⟩))), (52, (.int .i64 x2))] (fun bsE vsE W => RX w0 wr (cRow l (i + 1)) k nx R x1 x2 (bsE.getD 0 false) (bsE.getD 1 false) (bsE.getD 2 false) (bsE.getD 3 false) (bsE.getD 4 false) (bsE.getD 5 false) (bsE.getD 6 false) (bsE.getD 7 false) (bsE.getD 8 false) (bsE.getD 9 false) (vsE.getD 0 undef) (vsE.getD 1 undef) (vsE.getD 2 undef) (vsE.getD 3 undef) (vsE.getD 4 undef) (vsE.getD 5 undef) (vsE.getD 6 undef) (vsE.getD 7 undef) (vsE.getD 8 undef) (vsE.getD 9 undef) W) (by kernel_rfl) (by kernel_rfl) rfl (by kernel_rfl) (by kernel_rfl) (by simp) (by rfl) ?h0 ?each ?tail
            case h0 =>
              intro vsE hlv
              obtain ⟨v0, vsE0, rfl, hlv0⟩ := len_one hlv
              obtain ⟨v1, vsE1, rfl, hlv1⟩ := len_one hlv0
              obtain ⟨v2, vsE2, rfl, hlv2⟩ := len_one hlv1
              obtain ⟨v3, vsE3, rfl, hlv3⟩ := len_one hlv2
              obtain ⟨v4, vsE4, rfl, hlv4⟩ := len_one hlv3
              obtain ⟨v5, vsE5, rfl, hlv5⟩ := len_one hlv4
              obtain ⟨v6, vsE6, rfl, hlv6⟩ := len_one hlv5
              obtain ⟨v7, vsE7, rfl, hlv7⟩ := len_one hlv6
              obtain ⟨v8, vsE8, rfl, hlv8⟩ := len_one hlv7
              obtain ⟨v9, vsE9, rfl, hlv9⟩ := len_one hlv8
              obtain rfl := len_nil hlv9
              exact RX.start P1.out
            case each =>
              simp only [List.take_succ_cons, List.take_zero, AllE]
              refine ⟨?_, ?_, ?_, ?_, ?_, ?_, ?_, ?_, ?_, ?_, ?_, ?_, ?_, ?_, ?_, ?_, ?_, ?_, ?_, ?_, ?_, ?_, ?_, ?_, ?_, ?_, ?_, ?_, ?_, trivial⟩
              · refine ⟨28, nx, rfl, by kernel_rfl, ?_⟩
                intro bsE vsE W hlb hlv hnd h
                obtain ⟨b0, bsE0, rfl, hlb0⟩ := len_one hlb
                obtain ⟨v0, vsE0, rfl, hlv0⟩ := len_one hlv
                obtain ⟨b1, bsE1, rfl, hlb1⟩ := len_one hlb0
                obtain ⟨v1, vsE1, rfl, hlv1⟩ := len_one hlv0
                obtain ⟨b2, bsE2, rfl, hlb2⟩ := len_one hlb1
                obtain ⟨v2, vsE2, rfl, hlv2⟩ := len_one hlv1
                obtain ⟨b3, bsE3, rfl, hlb3⟩ := len_one hlb2
                obtain ⟨v3, vsE3, rfl, hlv3⟩ := len_one hlv2
                obtain ⟨b4, bsE4, rfl, hlb4⟩ := len_one hlb3
                obtain ⟨v4, vsE4, rfl, hlv4⟩ := len_one hlv3
                obtain ⟨b5, bsE5, rfl, hlb5⟩ := len_one hlb4
                obtain ⟨v5, vsE5, rfl, hlv5⟩ := len_one hlv4
                obtain ⟨b6, bsE6, rfl, hlb6⟩ := len_one hlb5
                obtain ⟨v6, vsE6, rfl, hlv6⟩ := len_one hlv5
                obtain ⟨b7, bsE7, rfl, hlb7⟩ := len_one hlb6
                obtain ⟨v7, vsE7, rfl, hlv7⟩ := len_one hlv6
                obtain ⟨b8, bsE8, rfl, hlb8⟩ := len_one hlb7
                obtain ⟨v8, vsE8, rfl, hlv8⟩ := len_one hlv7
                obtain ⟨b9, bsE9, rfl, hlb9⟩ := len_one hlb8
                obtain ⟨v9, vsE9, rfl, hlv9⟩ := len_one hlv8
                obtain rfl := len_nil hlb9
                obtain rfl := len_nil hlv9
                replace h : RX w0 wr (cRow l (i + 1)) k nx R x1 x2 b0 b1 b2 b3 b4 b5 b6 b7 b8 b9 v0 v1 v2 v3 v4 v5 v6 v7 v8 v9 W := h
                clear hnd
                have HST := Lib.hid h
                have u1 := (h.bel0.cell (p := ⟨bu, ou + i * 2, none⟩) lu).trans q1; have u2 := (h.bel0.cell (p := ⟨bu, ou + i * 2 + 1, none⟩) lu).trans q2; have u3 := (h.bel0.cell (p := ⟨tb, tq + k, none⟩) ht1).trans ht3; have hsz0 := h.bel0.size
                intro K Q hK
                simp only [putE, updAll, Act.put, List.setIfInBounds_toArray, List.set_cons_zero, List.set_cons_succ, List.set_nil] at hK ⊢
                go_wp2_with (fail)
                all_goals (first | exact hK _ (by first | exact h | exact h.step (by repeat' (first | exact Below.refl _ _ | apply bDrewN | apply bDrew))) | exact (by first | exact h | exact h.step (by repeat' (first | exact Below.refl _ _ | apply bDrewN | apply bDrew))))
              · refine ⟨29, rfl, ?_⟩
                intro bsE vsE W hlb hlv hnd hbk h
                obtain ⟨b0, bsE0, rfl, hlb0⟩ := len_one hlb
                obtain ⟨v0, vsE0, rfl, hlv0⟩ := len_one hlv
                obtain ⟨b1, bsE1, rfl, hlb1⟩ := len_one hlb0
                obtain ⟨v1, vsE1, rfl, hlv1⟩ := len_one hlv0
                obtain ⟨b2, bsE2, rfl, hlb2⟩ := len_one hlb1
                obtain ⟨v2, vsE2, rfl, hlv2⟩ := len_one hlv1
                obtain ⟨b3, bsE3, rfl, hlb3⟩ := len_one hlb2
                obtain ⟨v3, vsE3, rfl, hlv3⟩ := len_one hlv2
                obtain ⟨b4, bsE4, rfl, hlb4⟩ := len_one hlb3
                obtain ⟨v4, vsE4, rfl, hlv4⟩ := len_one hlv3
                obtain ⟨b5, bsE5, rfl, hlb5⟩ := len_one hlb4
                obtain ⟨v5, vsE5, rfl, hlv5⟩ := len_one hlv4
                obtain ⟨b6, bsE6, rfl, hlb6⟩ := len_one hlb5
                obtain ⟨v6, vsE6, rfl, hlv6⟩ := len_one hlv5
                obtain ⟨b7, bsE7, rfl, hlb7⟩ := len_one hlb6
                obtain ⟨v7, vsE7, rfl, hlv7⟩ := len_one hlv6
                obtain ⟨b8, bsE8, rfl, hlb8⟩ := len_one hlb7
                obtain ⟨v8, vsE8, rfl, hlv8⟩ := len_one hlv7
                obtain ⟨b9, bsE9, rfl, hlb9⟩ := len_one hlb8
                obtain ⟨v9, vsE9, rfl, hlv9⟩ := len_one hlv8
                obtain rfl := len_nil hlb9
                obtain rfl := len_nil hlv9
                obtain rfl : b0 = false := hbk
                replace h : RX w0 wr (cRow l (i + 1)) k nx R x1 x2 false b1 b2 b3 b4 b5 b6 b7 b8 b9 v0 v1 v2 v3 v4 v5 v6 v7 v8 v9 W := h
                clear hnd
                have HST := Lib.hid h
                have u1 := (h.bel0.cell (p := ⟨bu, ou + i * 2, none⟩) lu).trans q1; have u2 := (h.bel0.cell (p := ⟨bu, ou + i * 2 + 1, none⟩) lu).trans q2; have u3 := (h.bel0.cell (p := ⟨tb, tq + k, none⟩) ht1).trans ht3; have hsz0 := h.bel0.size
                intro K Q hK
                simp only [putE, updAll, Act.put, List.setIfInBounds_toArray, List.set_cons_zero, List.set_cons_succ, List.set_nil] at hK ⊢
                go_wp2_with fail
                all_goals (first | exact hK _ _ h.mk0 | exact h.mk0)
              · refine ⟨30, (.slice (some ⟨tb, tq, none⟩) P c5), rfl, by kernel_rfl, ?_⟩
                intro bsE vsE W hlb hlv hnd h
                obtain ⟨b0, bsE0, rfl, hlb0⟩ := len_one hlb
                obtain ⟨v0, vsE0, rfl, hlv0⟩ := len_one hlv
                obtain ⟨b1, bsE1, rfl, hlb1⟩ := len_one hlb0
                obtain ⟨v1, vsE1, rfl, hlv1⟩ := len_one hlv0
                obtain ⟨b2, bsE2, rfl, hlb2⟩ := len_one hlb1
                obtain ⟨v2, vsE2, rfl, hlv2⟩ := len_one hlv1
                obtain ⟨b3, bsE3, rfl, hlb3⟩ := len_one hlb2
                obtain ⟨v3, vsE3, rfl, hlv3⟩ := len_one hlv2
                obtain ⟨b4, bsE4, rfl, hlb4⟩ := len_one hlb3
                obtain ⟨v4, vsE4, rfl, hlv4⟩ := len_one hlv3
                obtain ⟨b5, bsE5, rfl, hlb5⟩ := len_one hlb4
                obtain ⟨v5, vsE5, rfl, hlv5⟩ := len_one hlv4
                obtain ⟨b6, bsE6, rfl, hlb6⟩ := len_one hlb5
                obtain ⟨v6, vsE6, rfl, hlv6⟩ := len_one hlv5
                obtain ⟨b7, bsE7, rfl, hlb7⟩ := len_one hlb6
                obtain ⟨v7, vsE7, rfl, hlv7⟩ := len_one hlv6
                obtain ⟨b8, bsE8, rfl, hlb8⟩ := len_one hlb7
                obtain ⟨v8, vsE8, rfl, hlv8⟩ := len_one hlv7
                obtain ⟨b9, bsE9, rfl, hlb9⟩ := len_one hlb8
                obtain ⟨v9, vsE9, rfl, hlv9⟩ := len_one hlv8
                obtain rfl := len_nil hlb9
                obtain rfl := len_nil hlv9
                replace h : RX w0 wr (cRow l (i + 1)) k nx R x1 x2 b0 b1 b2 b3 b4 b5 b6 b7 b8 b9 v0 v1 v2 v3 v4 v5 v6 v7 v8 v9 W := h
                clear hnd
                have HST := Lib.hid h
                have u1 := (h.bel0.cell (p := ⟨bu, ou + i * 2, none⟩) lu).trans q1; have u2 := (h.bel0.cell (p := ⟨bu, ou + i * 2 + 1, none⟩) lu).trans q2; have u3 := (h.bel0.cell (p := ⟨tb, tq + k, none⟩) ht1).trans ht3; have hsz0 := h.bel0.size
                intro K Q hK
                simp only [putE, updAll, Act.put, List.setIfInBounds_toArray, List.set_cons_zero, List.set_cons_succ, List.set_nil] at hK ⊢
                go_wp2_with (fail)
                all_goals (first | exact hK _ (by first | exact h | exact h.step (by repeat' (first | exact Below.refl _ _ | apply bDrewN | apply bDrew))) | exact (by first | exact h | exact h.step (by repeat' (first | exact Below.refl _ _ | apply bDrewN | apply bDrew))))
              · refine ⟨31, (.int .i64 (k : Int)), rfl, by kernel_rfl, ?_⟩
                intro bsE vsE W hlb hlv hnd h
                obtain ⟨b0, bsE0, rfl, hlb0⟩ := len_one hlb
                obtain ⟨v0, vsE0, rfl, hlv0⟩ := len_one hlv
                obtain ⟨b1, bsE1, rfl, hlb1⟩ := len_one hlb0
                obtain ⟨v1, vsE1, rfl, hlv1⟩ := len_one hlv0
                obtain ⟨b2, bsE2, rfl, hlb2⟩ := len_one hlb1
                obtain ⟨v2, vsE2, rfl, hlv2⟩ := len_one hlv1
                obtain ⟨b3, bsE3, rfl, hlb3⟩ := len_one hlb2
                obtain ⟨v3, vsE3, rfl, hlv3⟩ := len_one hlv2
                obtain ⟨b4, bsE4, rfl, hlb4⟩ := len_one hlb3
                obtain ⟨v4, vsE4, rfl, hlv4⟩ := len_one hlv3
                obtain ⟨b5, bsE5, rfl, hlb5⟩ := len_one hlb4
                obtain ⟨v5, vsE5, rfl, hlv5⟩ := len_one hlv4
                obtain ⟨b6, bsE6, rfl, hlb6⟩ := len_one hlb5
                obtain ⟨v6, vsE6, rfl, hlv6⟩ := len_one hlv5
                obtain ⟨b7, bsE7, rfl, hlb7⟩ := len_one hlb6
                obtain ⟨v7, vsE7, rfl, hlv7⟩ := len_one hlv6
                obtain ⟨b8, bsE8, rfl, hlb8⟩ := len_one hlb7
                obtain ⟨v8, vsE8, rfl, hlv8⟩ := len_one hlv7
                obtain ⟨b9, bsE9, rfl, hlb9⟩ := len_one hlb8
                obtain ⟨v9, vsE9, rfl, hlv9⟩ := len_one hlv8
                obtain rfl := len_nil hlb9
                obtain rfl := len_nil hlv9
                replace h : RX w0 wr (cRow l (i + 1)) k nx R x1 x2 b0 b1 b2 b3 b4 b5 b6 b7 b8 b9 v0 v1 v2 v3 v4 v5 v6 v7 v8 v9 W := h
                clear hnd
                have HST := Lib.hid h
                have u1 := (h.bel0.cell (p := ⟨bu, ou + i * 2, none⟩) lu).trans q1; have u2 := (h.bel0.cell (p := ⟨bu, ou + i * 2 + 1, none⟩) lu).trans q2; have u3 := (h.bel0.cell (p := ⟨tb, tq + k, none⟩) ht1).trans ht3; have hsz0 := h.bel0.size
                intro K Q hK
                simp only [putE, updAll, Act.put, List.setIfInBounds_toArray, List.set_cons_zero, List.set_cons_succ, List.set_nil] at hK ⊢
                go_wp2_with (fail)
                all_goals (first | exact hK _ (by first | exact h | exact h.step (by repeat' (first | exact Below.refl _ _ | apply bDrewN | apply bDrew))) | exact (by first | exact h | exact h.step (by repeat' (first | exact Below.refl _ _ | apply bDrewN | apply bDrew))))
              · refine ⟨32, (.pointer (some ⟨tb, tq + k, none⟩)), rfl, by kernel_rfl, ?_⟩
                intro bsE vsE W hlb hlv hnd h
                obtain ⟨b0, bsE0, rfl, hlb0⟩ := len_one hlb
                obtain ⟨v0, vsE0, rfl, hlv0⟩ := len_one hlv
                obtain ⟨b1, bsE1, rfl, hlb1⟩ := len_one hlb0
                obtain ⟨v1, vsE1, rfl, hlv1⟩ := len_one hlv0
                obtain ⟨b2, bsE2, rfl, hlb2⟩ := len_one hlb1
                obtain ⟨v2, vsE2, rfl, hlv2⟩ := len_one hlv1
                obtain ⟨b3, bsE3, rfl, hlb3⟩ := len_one hlb2
                obtain ⟨v3, vsE3, rfl, hlv3⟩ := len_one hlv2
                obtain ⟨b4, bsE4, rfl, hlb4⟩ := len_one hlb3
                obtain ⟨v4, vsE4, rfl, hlv4⟩ := len_one hlv3
                obtain ⟨b5, bsE5, rfl, hlb5⟩ := len_one hlb4
                obtain ⟨v5, vsE5, rfl, hlv5⟩ := len_one hlv4
                obtain ⟨b6, bsE6, rfl, hlb6⟩ := len_one hlb5
                obtain ⟨v6, vsE6, rfl, hlv6⟩ := len_one hlv5
                obtain ⟨b7, bsE7, rfl, hlb7⟩ := len_one hlb6
                obtain ⟨v7, vsE7, rfl, hlv7⟩ := len_one hlv6
                obtain ⟨b8, bsE8, rfl, hlb8⟩ := len_one hlb7
                obtain ⟨v8, vsE8, rfl, hlv8⟩ := len_one hlv7
                obtain ⟨b9, bsE9, rfl, hlb9⟩ := len_one hlb8
                obtain ⟨v9, vsE9, rfl, hlv9⟩ := len_one hlv8
                obtain rfl := len_nil hlb9
                obtain rfl := len_nil hlv9
                replace h : RX w0 wr (cRow l (i + 1)) k nx R x1 x2 b0 b1 b2 b3 b4 b5 b6 b7 b8 b9 v0 v1 v2 v3 v4 v5 v6 v7 v8 v9 W := h
                clear hnd
                have HST := Lib.hid h
                have u1 := (h.bel0.cell (p := ⟨bu, ou + i * 2, none⟩) lu).trans q1; have u2 := (h.bel0.cell (p := ⟨bu, ou + i * 2 + 1, none⟩) lu).trans q2; have u3 := (h.bel0.cell (p := ⟨tb, tq + k, none⟩) ht1).trans ht3; have hsz0 := h.bel0.size
                intro K Q hK
                simp only [putE, updAll, Act.put, List.setIfInBounds_toArray, List.set_cons_zero, List.set_cons_succ, List.set_nil] at hK ⊢
                go_wp2_with (fail)
                all_goals (first | exact hK _ (by first | exact h | exact h.step (by repeat' (first | exact Below.refl _ _ | apply bDrewN | apply bDrew))) | exact (by first | exact h | exact h.step (by repeat' (first | exact Below.refl _ _ | apply bDrewN | apply bDrew))))
              · refine ⟨33, (.slice ak R.length ck), rfl, by kernel_rfl, ?_⟩
                intro bsE vsE W hlb hlv hnd h
                obtain ⟨b0, bsE0, rfl, hlb0⟩ := len_one hlb
                obtain ⟨v0, vsE0, rfl, hlv0⟩ := len_one hlv
                obtain ⟨b1, bsE1, rfl, hlb1⟩ := len_one hlb0
                obtain ⟨v1, vsE1, rfl, hlv1⟩ := len_one hlv0
                obtain ⟨b2, bsE2, rfl, hlb2⟩ := len_one hlb1
                obtain ⟨v2, vsE2, rfl, hlv2⟩ := len_one hlv1
                obtain ⟨b3, bsE3, rfl, hlb3⟩ := len_one hlb2
                obtain ⟨v3, vsE3, rfl, hlv3⟩ := len_one hlv2
                obtain ⟨b4, bsE4, rfl, hlb4⟩ := len_one hlb3
                obtain ⟨v4, vsE4, rfl, hlv4⟩ := len_one hlv3
                obtain ⟨b5, bsE5, rfl, hlb5⟩ := len_one hlb4
                obtain ⟨v5, vsE5, rfl, hlv5⟩ := len_one hlv4
                obtain ⟨b6, bsE6, rfl, hlb6⟩ := len_one hlb5
                obtain ⟨v6, vsE6, rfl, hlv6⟩ := len_one hlv5
                obtain ⟨b7, bsE7, rfl, hlb7⟩ := len_one hlb6
                obtain ⟨v7, vsE7, rfl, hlv7⟩ := len_one hlv6
                obtain ⟨b8, bsE8, rfl, hlb8⟩ := len_one hlb7
                obtain ⟨v8, vsE8, rfl, hlv8⟩ := len_one hlv7
                obtain ⟨b9, bsE9, rfl, hlb9⟩ := len_one hlb8
                obtain ⟨v9, vsE9, rfl, hlv9⟩ := len_one hlv8
                obtain rfl := len_nil hlb9
                obtain rfl := len_nil hlv9
                replace h : RX w0 wr (cRow l (i + 1)) k nx R x1 x2 b0 b1 b2 b3 b4 b5 b6 b7 b8 b9 v0 v1 v2 v3 v4 v5 v6 v7 v8 v9 W := h
                clear hnd
                have HST := Lib.hid h
                have u1 := (h.bel0.cell (p := ⟨bu, ou + i * 2, none⟩) lu).trans q1; have u2 := (h.bel0.cell (p := ⟨bu, ou + i * 2 + 1, none⟩) lu).trans q2; have u3 := (h.bel0.cell (p := ⟨tb, tq + k, none⟩) ht1).trans ht3; have hsz0 := h.bel0.size
                intro K Q hK
                simp only [putE, updAll, Act.put, List.setIfInBounds_toArray, List.set_cons_zero, List.set_cons_succ, List.set_nil] at hK ⊢
                go_wp2_with (fail)
                all_goals (first | exact hK _ (by first | exact h | exact h.step (by repeat' (first | exact Below.refl _ _ | apply bDrewN | apply bDrew))) | exact (by first | exact h | exact h.step (by repeat' (first | exact Below.refl _ _ | apply bDrewN | apply bDrew))))
              · refine ⟨34, rfl, ?_⟩
                intro bsE vsE W hlb hlv hnd hbk h
                obtain ⟨b0, bsE0, rfl, hlb0⟩ := len_one hlb
                obtain ⟨v0, vsE0, rfl, hlv0⟩ := len_one hlv
                obtain ⟨b1, bsE1, rfl, hlb1⟩ := len_one hlb0
                obtain ⟨v1, vsE1, rfl, hlv1⟩ := len_one hlv0
                obtain ⟨b2, bsE2, rfl, hlb2⟩ := len_one hlb1
                obtain ⟨v2, vsE2, rfl, hlv2⟩ := len_one hlv1
                obtain ⟨b3, bsE3, rfl, hlb3⟩ := len_one hlb2
                obtain ⟨v3, vsE3, rfl, hlv3⟩ := len_one hlv2
                obtain ⟨b4, bsE4, rfl, hlb4⟩ := len_one hlb3
                obtain ⟨v4, vsE4, rfl, hlv4⟩ := len_one hlv3
                obtain ⟨b5, bsE5, rfl, hlb5⟩ := len_one hlb4
                obtain ⟨v5, vsE5, rfl, hlv5⟩ := len_one hlv4
                obtain ⟨b6, bsE6, rfl, hlb6⟩ := len_one hlb5
                obtain ⟨v6, vsE6, rfl, hlv6⟩ := len_one hlv5
                obtain ⟨b7, bsE7, rfl, hlb7⟩ := len_one hlb6
                obtain ⟨v7, vsE7, rfl, hlv7⟩ := len_one hlv6
                obtain ⟨b8, bsE8, rfl, hlb8⟩ := len_one hlb7
                obtain ⟨v8, vsE8, rfl, hlv8⟩ := len_one hlv7
                obtain ⟨b9, bsE9, rfl, hlb9⟩ := len_one hlb8
                obtain ⟨v9, vsE9, rfl, hlv9⟩ := len_one hlv8
                obtain rfl := len_nil hlb9
                obtain rfl := len_nil hlv9
                obtain rfl : b0 = true := hnd 0 (by simp)
                obtain rfl : b1 = false := hbk
                replace h : RX w0 wr (cRow l (i + 1)) k nx R x1 x2 true false b2 b3 b4 b5 b6 b7 b8 b9 v0 v1 v2 v3 v4 v5 v6 v7 v8 v9 W := h
                clear hnd
                have HST := Lib.hid h
                obtain rfl := h.n1; obtain rfl := h.n3; obtain rfl := h.n8; have hsz := (h.mq rfl).sz; have hat2 := HAt.out.step h.bel0
                intro K Q hK
                simp only [putE, updAll, Act.put, List.setIfInBounds_toArray, List.set_cons_zero, List.set_cons_succ, List.set_nil] at hK ⊢
                refine wp_app_copy _ (.tmp 29) (.tmp 33) rfl v0 rfl wr.heap.size [] h.own0 ak R ck rfl hat2 (by have := HRl.out; simp; omega) hsz ?_
                intro v' w' ho hg hat9
                first | exact hK _ _ (h.mk1 ho hg hat9) | exact h.mk1 ho hg hat9
              · refine ⟨35, (.slice (some ⟨bu, ou, none⟩) l.length ca), rfl, by kernel_rfl, ?_⟩
                intro bsE vsE W hlb hlv hnd h
                obtain ⟨b0, bsE0, rfl, hlb0⟩ := len_one hlb
                obtain ⟨v0, vsE0, rfl, hlv0⟩ := len_one hlv
                obtain ⟨b1, bsE1, rfl, hlb1⟩ := len_one hlb0
                obtain ⟨v1, vsE1, rfl, hlv1⟩ := len_one hlv0
                obtain ⟨b2, bsE2, rfl, hlb2⟩ := len_one hlb1
                obtain ⟨v2, vsE2, rfl, hlv2⟩ := len_one hlv1
                obtain ⟨b3, bsE3, rfl, hlb3⟩ := len_one hlb2
                obtain ⟨v3, vsE3, rfl, hlv3⟩ := len_one hlv2
                obtain ⟨b4, bsE4, rfl, hlb4⟩ := len_one hlb3
                obtain ⟨v4, vsE4, rfl, hlv4⟩ := len_one hlv3
                obtain ⟨b5, bsE5, rfl, hlb5⟩ := len_one hlb4
                obtain ⟨v5, vsE5, rfl, hlv5⟩ := len_one hlv4
                obtain ⟨b6, bsE6, rfl, hlb6⟩ := len_one hlb5
                obtain ⟨v6, vsE6, rfl, hlv6⟩ := len_one hlv5
                obtain ⟨b7, bsE7, rfl, hlb7⟩ := len_one hlb6
                obtain ⟨v7, vsE7, rfl, hlv7⟩ := len_one hlv6
                obtain ⟨b8, bsE8, rfl, hlb8⟩ := len_one hlb7
                obtain ⟨v8, vsE8, rfl, hlv8⟩ := len_one hlv7
                obtain ⟨b9, bsE9, rfl, hlb9⟩ := len_one hlb8
                obtain ⟨v9, vsE9, rfl, hlv9⟩ := len_one hlv8
                obtain rfl := len_nil hlb9
                obtain rfl := len_nil hlv9
                replace h : RX w0 wr (cRow l (i + 1)) k nx R x1 x2 b0 b1 b2 b3 b4 b5 b6 b7 b8 b9 v0 v1 v2 v3 v4 v5 v6 v7 v8 v9 W := h
                clear hnd
                have HST := Lib.hid h
                have u1 := (h.bel0.cell (p := ⟨bu, ou + i * 2, none⟩) lu).trans q1; have u2 := (h.bel0.cell (p := ⟨bu, ou + i * 2 + 1, none⟩) lu).trans q2; have u3 := (h.bel0.cell (p := ⟨tb, tq + k, none⟩) ht1).trans ht3; have hsz0 := h.bel0.size
                intro K Q hK
                simp only [putE, updAll, Act.put, List.setIfInBounds_toArray, List.set_cons_zero, List.set_cons_succ, List.set_nil] at hK ⊢
                go_wp2_with (fail)
                all_goals (first | exact hK _ (by first | exact h | exact h.step (by repeat' (first | exact Below.refl _ _ | apply bDrewN | apply bDrew))) | exact (by first | exact h | exact h.step (by repeat' (first | exact Below.refl _ _ | apply bDrewN | apply bDrew))))
              · refine ⟨36, (.int .i64 (i : Int)), rfl, by kernel_rfl, ?_⟩
                intro bsE vsE W hlb hlv hnd h
                obtain ⟨b0, bsE0, rfl, hlb0⟩ := len_one hlb
                obtain ⟨v0, vsE0, rfl, hlv0⟩ := len_one hlv
                obtain ⟨b1, bsE1, rfl, hlb1⟩ := len_one hlb0
                obtain ⟨v1, vsE1, rfl, hlv1⟩ := len_one hlv0
                obtain ⟨b2, bsE2, rfl, hlb2⟩ := len_one hlb1
                obtain ⟨v2, vsE2, rfl, hlv2⟩ := len_one hlv1
                obtain ⟨b3, bsE3, rfl, hlb3⟩ := len_one hlb2
                obtain ⟨v3, vsE3, rfl, hlv3⟩ := len_one hlv2
                obtain ⟨b4, bsE4, rfl, hlb4⟩ := len_one hlb3
                obtain ⟨v4, vsE4, rfl, hlv4⟩ := len_one hlv3
                obtain ⟨b5, bsE5, rfl, hlb5⟩ := len_one hlb4
                obtain ⟨v5, vsE5, rfl, hlv5⟩ := len_one hlv4
                obtain ⟨b6, bsE6, rfl, hlb6⟩ := len_one hlb5
                obtain ⟨v6, vsE6, rfl, hlv6⟩ := len_one hlv5
                obtain ⟨b7, bsE7, rfl, hlb7⟩ := len_one hlb6
                obtain ⟨v7, vsE7, rfl, hlv7⟩ := len_one hlv6
                obtain ⟨b8, bsE8, rfl, hlb8⟩ := len_one hlb7
                obtain ⟨v8, vsE8, rfl, hlv8⟩ := len_one hlv7
                obtain ⟨b9, bsE9, rfl, hlb9⟩ := len_one hlb8
                obtain ⟨v9, vsE9, rfl, hlv9⟩ := len_one hlv8
                obtain rfl := len_nil hlb9
                obtain rfl := len_nil hlv9
                replace h : RX w0 wr (cRow l (i + 1)) k nx R x1 x2 b0 b1 b2 b3 b4 b5 b6 b7 b8 b9 v0 v1 v2 v3 v4 v5 v6 v7 v8 v9 W := h
                clear hnd
                have HST := Lib.hid h
                have u1 := (h.bel0.cell (p := ⟨bu, ou + i * 2, none⟩) lu).trans q1; have u2 := (h.bel0.cell (p := ⟨bu, ou + i * 2 + 1, none⟩) lu).trans q2; have u3 := (h.bel0.cell (p := ⟨tb, tq + k, none⟩) ht1).trans ht3; have hsz0 := h.bel0.size
                intro K Q hK
                simp only [putE, updAll, Act.put, List.setIfInBounds_toArray, List.set_cons_zero, List.set_cons_succ, List.set_nil] at hK ⊢
                go_wp2_with (fail)
                all_goals (first | exact hK _ (by first | exact h | exact h.step (by repeat' (first | exact Below.refl _ _ | apply bDrewN | apply bDrew))) | exact (by first | exact h | exact h.step (by repeat' (first | exact Below.refl _ _ | apply bDrewN | apply bDrew))))
              · refine ⟨37, (.pointer (some ⟨bu, ou + i * 2, none⟩)), rfl, by kernel_rfl, ?_⟩
                intro bsE vsE W hlb hlv hnd h
                obtain ⟨b0, bsE0, rfl, hlb0⟩ := len_one hlb
                obtain ⟨v0, vsE0, rfl, hlv0⟩ := len_one hlv
                obtain ⟨b1, bsE1, rfl, hlb1⟩ := len_one hlb0
                obtain ⟨v1, vsE1, rfl, hlv1⟩ := len_one hlv0
                obtain ⟨b2, bsE2, rfl, hlb2⟩ := len_one hlb1
                obtain ⟨v2, vsE2, rfl, hlv2⟩ := len_one hlv1
                obtain ⟨b3, bsE3, rfl, hlb3⟩ := len_one hlb2
                obtain ⟨v3, vsE3, rfl, hlv3⟩ := len_one hlv2
                obtain ⟨b4, bsE4, rfl, hlb4⟩ := len_one hlb3
                obtain ⟨v4, vsE4, rfl, hlv4⟩ := len_one hlv3
                obtain ⟨b5, bsE5, rfl, hlb5⟩ := len_one hlb4
                obtain ⟨v5, vsE5, rfl, hlv5⟩ := len_one hlv4
                obtain ⟨b6, bsE6, rfl, hlb6⟩ := len_one hlb5
                obtain ⟨v6, vsE6, rfl, hlv6⟩ := len_one hlv5
                obtain ⟨b7, bsE7, rfl, hlb7⟩ := len_one hlb6
                obtain ⟨v7, vsE7, rfl, hlv7⟩ := len_one hlv6
                obtain ⟨b8, bsE8, rfl, hlb8⟩ := len_one hlb7
                obtain ⟨v8, vsE8, rfl, hlv8⟩ := len_one hlv7
                obtain ⟨b9, bsE9, rfl, hlb9⟩ := len_one hlb8
                obtain ⟨v9, vsE9, rfl, hlv9⟩ := len_one hlv8
                obtain rfl := len_nil hlb9
                obtain rfl := len_nil hlv9
                replace h : RX w0 wr (cRow l (i + 1)) k nx R x1 x2 b0 b1 b2 b3 b4 b5 b6 b7 b8 b9 v0 v1 v2 v3 v4 v5 v6 v7 v8 v9 W := h
                clear hnd
                have HST := Lib.hid h
                have u1 := (h.bel0.cell (p := ⟨bu, ou + i * 2, none⟩) lu).trans q1; have u2 := (h.bel0.cell (p := ⟨bu, ou + i * 2 + 1, none⟩) lu).trans q2; have u3 := (h.bel0.cell (p := ⟨tb, tq + k, none⟩) ht1).trans ht3; have hsz0 := h.bel0.size
                intro K Q hK
                simp only [putE, updAll, Act.put, List.setIfInBounds_toArray, List.set_cons_zero, List.set_cons_succ, List.set_nil] at hK ⊢
                go_wp2_with (fail)
                all_goals (first | exact hK _ (by first | exact h | exact h.step (by repeat' (first | exact Below.refl _ _ | apply bDrewN | apply bDrew))) | exact (by first | exact h | exact h.step (by repeat' (first | exact Below.refl _ _ | apply bDrewN | apply bDrew))))
              · refine ⟨38, (.pointer (some ⟨bu, ou + i * 2, none⟩)), rfl, by kernel_rfl, ?_⟩
                intro bsE vsE W hlb hlv hnd h
                obtain ⟨b0, bsE0, rfl, hlb0⟩ := len_one hlb
                obtain ⟨v0, vsE0, rfl, hlv0⟩ := len_one hlv
                obtain ⟨b1, bsE1, rfl, hlb1⟩ := len_one hlb0
                obtain ⟨v1, vsE1, rfl, hlv1⟩ := len_one hlv0
                obtain ⟨b2, bsE2, rfl, hlb2⟩ := len_one hlb1
                obtain ⟨v2, vsE2, rfl, hlv2⟩ := len_one hlv1
                obtain ⟨b3, bsE3, rfl, hlb3⟩ := len_one hlb2
                obtain ⟨v3, vsE3, rfl, hlv3⟩ := len_one hlv2
                obtain ⟨b4, bsE4, rfl, hlb4⟩ := len_one hlb3
                obtain ⟨v4, vsE4, rfl, hlv4⟩ := len_one hlv3
                obtain ⟨b5, bsE5, rfl, hlb5⟩ := len_one hlb4
                obtain ⟨v5, vsE5, rfl, hlv5⟩ := len_one hlv4
                obtain ⟨b6, bsE6, rfl, hlb6⟩ := len_one hlb5
                obtain ⟨v6, vsE6, rfl, hlv6⟩ := len_one hlv5
                obtain ⟨b7, bsE7, rfl, hlb7⟩ := len_one hlb6
                obtain ⟨v7, vsE7, rfl, hlv7⟩ := len_one hlv6
                obtain ⟨b8, bsE8, rfl, hlb8⟩ := len_one hlb7
                obtain ⟨v8, vsE8, rfl, hlv8⟩ := len_one hlv7
                obtain ⟨b9, bsE9, rfl, hlb9⟩ := len_one hlb8
                obtain ⟨v9, vsE9, rfl, hlv9⟩ := len_one hlv8
                obtain rfl := len_nil hlb9
                obtain rfl := len_nil hlv9
                replace h : RX w0 wr (cRow l (i + 1)) k nx R x1 x2 b0 b1 b2 b3 b4 b5 b6 b7 b8 b9 v0 v1 v2 v3 v4 v5 v6 v7 v8 v9 W := h
                clear hnd
                have HST := Lib.hid h
                have u1 := (h.bel0.cell (p := ⟨bu, ou + i * 2, none⟩) lu).trans q1; have u2 := (h.bel0.cell (p := ⟨bu, ou + i * 2 + 1, none⟩) lu).trans q2; have u3 := (h.bel0.cell (p := ⟨tb, tq + k, none⟩) ht1).trans ht3; have hsz0 := h.bel0.size
                intro K Q hK
                simp only [putE, updAll, Act.put, List.setIfInBounds_toArray, List.set_cons_zero, List.set_cons_succ, List.set_nil] at hK ⊢
                go_wp2_with (fail)
                all_goals (first | exact hK _ (by first | exact h | exact h.step (by repeat' (first | exact Below.refl _ _ | apply bDrewN | apply bDrew))) | exact (by first | exact h | exact h.step (by repeat' (first | exact Below.refl _ _ | apply bDrewN | apply bDrew))))
              · refine ⟨39, (.int .i64 x1), rfl, by kernel_rfl, ?_⟩
                intro bsE vsE W hlb hlv hnd h
                obtain ⟨b0, bsE0, rfl, hlb0⟩ := len_one hlb
                obtain ⟨v0, vsE0, rfl, hlv0⟩ := len_one hlv
                obtain ⟨b1, bsE1, rfl, hlb1⟩ := len_one hlb0
                obtain ⟨v1, vsE1, rfl, hlv1⟩ := len_one hlv0
                obtain ⟨b2, bsE2, rfl, hlb2⟩ := len_one hlb1
                obtain ⟨v2, vsE2, rfl, hlv2⟩ := len_one hlv1
                obtain ⟨b3, bsE3, rfl, hlb3⟩ := len_one hlb2
                obtain ⟨v3, vsE3, rfl, hlv3⟩ := len_one hlv2
                obtain ⟨b4, bsE4, rfl, hlb4⟩ := len_one hlb3
                obtain ⟨v4, vsE4, rfl, hlv4⟩ := len_one hlv3
                obtain ⟨b5, bsE5, rfl, hlb5⟩ := len_one hlb4
                obtain ⟨v5, vsE5, rfl, hlv5⟩ := len_one hlv4
                obtain ⟨b6, bsE6, rfl, hlb6⟩ := len_one hlb5
                obtain ⟨v6, vsE6, rfl, hlv6⟩ := len_one hlv5
                obtain ⟨b7, bsE7, rfl, hlb7⟩ := len_one hlb6
                obtain ⟨v7, vsE7, rfl, hlv7⟩ := len_one hlv6
                obtain ⟨b8, bsE8, rfl, hlb8⟩ := len_one hlb7
                obtain ⟨v8, vsE8, rfl, hlv8⟩ := len_one hlv7
                obtain ⟨b9, bsE9, rfl, hlb9⟩ := len_one hlb8
                obtain ⟨v9, vsE9, rfl, hlv9⟩ := len_one hlv8
                obtain rfl := len_nil hlb9
                obtain rfl := len_nil hlv9
                replace h : RX w0 wr (cRow l (i + 1)) k nx R x1 x2 b0 b1 b2 b3 b4 b5 b6 b7 b8 b9 v0 v1 v2 v3 v4 v5 v6 v7 v8 v9 W := h
                clear hnd
                have HST := Lib.hid h
                have u1 := (h.bel0.cell (p := ⟨bu, ou + i * 2, none⟩) lu).trans q1; have u2 := (h.bel0.cell (p := ⟨bu, ou + i * 2 + 1, none⟩) lu).trans q2; have u3 := (h.bel0.cell (p := ⟨tb, tq + k, none⟩) ht1).trans ht3; have hsz0 := h.bel0.size
                intro K Q hK
                simp only [putE, updAll, Act.put, List.setIfInBounds_toArray, List.set_cons_zero, List.set_cons_succ, List.set_nil] at hK ⊢
                go_wp2_with (fail)
                all_goals (first | exact hK _ (by first | exact h | exact h.step (by repeat' (first | exact Below.refl _ _ | apply bDrewN | apply bDrew))) | exact (by first | exact h | exact h.step (by repeat' (first | exact Below.refl _ _ | apply bDrewN | apply bDrew))))
              · refine ⟨40, rfl, ?_⟩
                intro bsE vsE W hlb hlv hnd hbk h
                obtain ⟨b0, bsE0, rfl, hlb0⟩ := len_one hlb
                obtain ⟨v0, vsE0, rfl, hlv0⟩ := len_one hlv
                obtain ⟨b1, bsE1, rfl, hlb1⟩ := len_one hlb0
                obtain ⟨v1, vsE1, rfl, hlv1⟩ := len_one hlv0
                obtain ⟨b2, bsE2, rfl, hlb2⟩ := len_one hlb1
                obtain ⟨v2, vsE2, rfl, hlv2⟩ := len_one hlv1
                obtain ⟨b3, bsE3, rfl, hlb3⟩ := len_one hlb2
                obtain ⟨v3, vsE3, rfl, hlv3⟩ := len_one hlv2
                obtain ⟨b4, bsE4, rfl, hlb4⟩ := len_one hlb3
                obtain ⟨v4, vsE4, rfl, hlv4⟩ := len_one hlv3
                obtain ⟨b5, bsE5, rfl, hlb5⟩ := len_one hlb4
                obtain ⟨v5, vsE5, rfl, hlv5⟩ := len_one hlv4
                obtain ⟨b6, bsE6, rfl, hlb6⟩ := len_one hlb5
                obtain ⟨v6, vsE6, rfl, hlv6⟩ := len_one hlv5
                obtain ⟨b7, bsE7, rfl, hlb7⟩ := len_one hlb6
                obtain ⟨v7, vsE7, rfl, hlv7⟩ := len_one hlv6
                obtain ⟨b8, bsE8, rfl, hlb8⟩ := len_one hlb7
                obtain ⟨v8, vsE8, rfl, hlv8⟩ := len_one hlv7
                obtain ⟨b9, bsE9, rfl, hlb9⟩ := len_one hlb8
                obtain ⟨v9, vsE9, rfl, hlv9⟩ := len_one hlv8
                obtain rfl := len_nil hlb9
                obtain rfl := len_nil hlv9
                obtain rfl : b2 = false := hbk
                replace h : RX w0 wr (cRow l (i + 1)) k nx R x1 x2 b0 b1 false b3 b4 b5 b6 b7 b8 b9 v0 v1 v2 v3 v4 v5 v6 v7 v8 v9 W := h
                clear hnd
                have HST := Lib.hid h
                have u1 := (h.bel0.cell (p := ⟨bu, ou + i * 2, none⟩) lu).trans q1; have u2 := (h.bel0.cell (p := ⟨bu, ou + i * 2 + 1, none⟩) lu).trans q2; have u3 := (h.bel0.cell (p := ⟨tb, tq + k, none⟩) ht1).trans ht3; have hsz0 := h.bel0.size
                intro K Q hK
                simp only [putE, updAll, Act.put, List.setIfInBounds_toArray, List.set_cons_zero, List.set_cons_succ, List.set_nil] at hK ⊢
                go_wp2_with fail
                all_goals (first | exact hK _ _ h.mk2 | exact h.mk2)
              · refine ⟨41, rfl, ?_⟩
                intro bsE vsE W hlb hlv hnd hbk h
                obtain ⟨b0, bsE0, rfl, hlb0⟩ := len_one hlb
                obtain ⟨v0, vsE0, rfl, hlv0⟩ := len_one hlv
                obtain ⟨b1, bsE1, rfl, hlb1⟩ := len_one hlb0
                obtain ⟨v1, vsE1, rfl, hlv1⟩ := len_one hlv0
                obtain ⟨b2, bsE2, rfl, hlb2⟩ := len_one hlb1
                obtain ⟨v2, vsE2, rfl, hlv2⟩ := len_one hlv1
                obtain ⟨b3, bsE3, rfl, hlb3⟩ := len_one hlb2
                obtain ⟨v3, vsE3, rfl, hlv3⟩ := len_one hlv2
                obtain ⟨b4, bsE4, rfl, hlb4⟩ := len_one hlb3
                obtain ⟨v4, vsE4, rfl, hlv4⟩ := len_one hlv3
                obtain ⟨b5, bsE5, rfl, hlb5⟩ := len_one hlb4
                obtain ⟨v5, vsE5, rfl, hlv5⟩ := len_one hlv4
                obtain ⟨b6, bsE6, rfl, hlb6⟩ := len_one hlb5
                obtain ⟨v6, vsE6, rfl, hlv6⟩ := len_one hlv5
                obtain ⟨b7, bsE7, rfl, hlb7⟩ := len_one hlb6
                obtain ⟨v7, vsE7, rfl, hlv7⟩ := len_one hlv6
                obtain ⟨b8, bsE8, rfl, hlb8⟩ := len_one hlb7
                obtain ⟨v8, vsE8, rfl, hlv8⟩ := len_one hlv7
                obtain ⟨b9, bsE9, rfl, hlb9⟩ := len_one hlb8
                obtain ⟨v9, vsE9, rfl, hlv9⟩ := len_one hlv8
                obtain rfl := len_nil hlb9
                obtain rfl := len_nil hlv9
                obtain rfl : b1 = true := hnd 1 (by simp)
                obtain rfl : b2 = true := hnd 2 (by simp)
                obtain rfl : b3 = false := hbk
                replace h : RX w0 wr (cRow l (i + 1)) k nx R x1 x2 b0 true true false b4 b5 b6 b7 b8 b9 v0 v1 v2 v3 v4 v5 v6 v7 v8 v9 W := h
                clear hnd
                have HST := Lib.hid h
                obtain rfl := h.n3; obtain rfl := h.n8; have hsz := (h.mq rfl).sz; obtain ⟨a0, c0, e0, hat0⟩ := IntOwn.row h.src2; subst e0
                intro K Q hK
                simp only [putE, updAll, Act.put, List.setIfInBounds_toArray, List.set_cons_zero, List.set_cons_succ, List.set_nil] at hK ⊢
                refine wp_app_copy _ (.tmp 34) (.tmp 40) rfl v1 rfl wr.heap.size R h.own1 a0 [x1] c0 rfl hat0 (by have := HRl.out; simp; omega) hsz ?_
                intro v' w' ho hg hat9
                first | exact hK _ _ (h.mk3 ho hg hat9) | exact h.mk3 ho hg hat9
              · refine ⟨42, rfl, ?_⟩
                intro bsE vsE W hlb hlv hnd hbk h
                obtain ⟨b0, bsE0, rfl, hlb0⟩ := len_one hlb
                obtain ⟨v0, vsE0, rfl, hlv0⟩ := len_one hlv
                obtain ⟨b1, bsE1, rfl, hlb1⟩ := len_one hlb0
                obtain ⟨v1, vsE1, rfl, hlv1⟩ := len_one hlv0
                obtain ⟨b2, bsE2, rfl, hlb2⟩ := len_one hlb1
                obtain ⟨v2, vsE2, rfl, hlv2⟩ := len_one hlv1
                obtain ⟨b3, bsE3, rfl, hlb3⟩ := len_one hlb2
                obtain ⟨v3, vsE3, rfl, hlv3⟩ := len_one hlv2
                obtain ⟨b4, bsE4, rfl, hlb4⟩ := len_one hlb3
                obtain ⟨v4, vsE4, rfl, hlv4⟩ := len_one hlv3
                obtain ⟨b5, bsE5, rfl, hlb5⟩ := len_one hlb4
                obtain ⟨v5, vsE5, rfl, hlv5⟩ := len_one hlv4
                obtain ⟨b6, bsE6, rfl, hlb6⟩ := len_one hlb5
                obtain ⟨v6, vsE6, rfl, hlv6⟩ := len_one hlv5
                obtain ⟨b7, bsE7, rfl, hlb7⟩ := len_one hlb6
                obtain ⟨v7, vsE7, rfl, hlv7⟩ := len_one hlv6
                obtain ⟨b8, bsE8, rfl, hlb8⟩ := len_one hlb7
                obtain ⟨v8, vsE8, rfl, hlv8⟩ := len_one hlv7
                obtain ⟨b9, bsE9, rfl, hlb9⟩ := len_one hlb8
                obtain ⟨v9, vsE9, rfl, hlv9⟩ := len_one hlv8
                obtain rfl := len_nil hlb9
                obtain rfl := len_nil hlv9
                obtain rfl : b4 = false := hbk
                replace h : RX w0 wr (cRow l (i + 1)) k nx R x1 x2 b0 b1 b2 b3 false b5 b6 b7 b8 b9 v0 v1 v2 v3 v4 v5 v6 v7 v8 v9 W := h
                clear hnd
                have HST := Lib.hid h
                have u1 := (h.bel0.cell (p := ⟨bu, ou + i * 2, none⟩) lu).trans q1; have u2 := (h.bel0.cell (p := ⟨bu, ou + i * 2 + 1, none⟩) lu).trans q2; have u3 := (h.bel0.cell (p := ⟨tb, tq + k, none⟩) ht1).trans ht3; have hsz0 := h.bel0.size
                intro K Q hK
                simp only [putE, updAll, Act.put, List.setIfInBounds_toArray, List.set_cons_zero, List.set_cons_succ, List.set_nil] at hK ⊢
                go_wp2_with fail
                all_goals (first | exact hK _ _ h.mk4 | exact h.mk4)
              · refine ⟨43, (.slice (some ⟨tb, tq, none⟩) P c5), rfl, by kernel_rfl, ?_⟩
                intro bsE vsE W hlb hlv hnd h
                obtain ⟨b0, bsE0, rfl, hlb0⟩ := len_one hlb
                obtain ⟨v0, vsE0, rfl, hlv0⟩ := len_one hlv
                obtain ⟨b1, bsE1, rfl, hlb1⟩ := len_one hlb0
                obtain ⟨v1, vsE1, rfl, hlv1⟩ := len_one hlv0
                obtain ⟨b2, bsE2, rfl, hlb2⟩ := len_one hlb1
                obtain ⟨v2, vsE2, rfl, hlv2⟩ := len_one hlv1
                obtain ⟨b3, bsE3, rfl, hlb3⟩ := len_one hlb2
                obtain ⟨v3, vsE3, rfl, hlv3⟩ := len_one hlv2
                obtain ⟨b4, bsE4, rfl, hlb4⟩ := len_one hlb3
                obtain ⟨v4, vsE4, rfl, hlv4⟩ := len_one hlv3
                obtain ⟨b5, bsE5, rfl, hlb5⟩ := len_one hlb4
                obtain ⟨v5, vsE5, rfl, hlv5⟩ := len_one hlv4
                obtain ⟨b6, bsE6, rfl, hlb6⟩ := len_one hlb5
                obtain ⟨v6, vsE6, rfl, hlv6⟩ := len_one hlv5
                obtain ⟨b7, bsE7, rfl, hlb7⟩ := len_one hlb6
                obtain ⟨v7, vsE7, rfl, hlv7⟩ := len_one hlv6
                obtain ⟨b8, bsE8, rfl, hlb8⟩ := len_one hlb7
                obtain ⟨v8, vsE8, rfl, hlv8⟩ := len_one hlv7
                obtain ⟨b9, bsE9, rfl, hlb9⟩ := len_one hlb8
                obtain ⟨v9, vsE9, rfl, hlv9⟩ := len_one hlv8
                obtain rfl := len_nil hlb9
                obtain rfl := len_nil hlv9
                replace h : RX w0 wr (cRow l (i + 1)) k nx R x1 x2 b0 b1 b2 b3 b4 b5 b6 b7 b8 b9 v0 v1 v2 v3 v4 v5 v6 v7 v8 v9 W := h
                clear hnd
                have HST := Lib.hid h
                have u1 := (h.bel0.cell (p := ⟨bu, ou + i * 2, none⟩) lu).trans q1; have u2 := (h.bel0.cell (p := ⟨bu, ou + i * 2 + 1, none⟩) lu).trans q2; have u3 := (h.bel0.cell (p := ⟨tb, tq + k, none⟩) ht1).trans ht3; have hsz0 := h.bel0.size
                intro K Q hK
                simp only [putE, updAll, Act.put, List.setIfInBounds_toArray, List.set_cons_zero, List.set_cons_succ, List.set_nil] at hK ⊢
                go_wp2_with (fail)
                all_goals (first | exact hK _ (by first | exact h | exact h.step (by repeat' (first | exact Below.refl _ _ | apply bDrewN | apply bDrew))) | exact (by first | exact h | exact h.step (by repeat' (first | exact Below.refl _ _ | apply bDrewN | apply bDrew))))
              · refine ⟨44, (.int .i64 (k : Int)), rfl, by kernel_rfl, ?_⟩
                intro bsE vsE W hlb hlv hnd h
                obtain ⟨b0, bsE0, rfl, hlb0⟩ := len_one hlb
                obtain ⟨v0, vsE0, rfl, hlv0⟩ := len_one hlv
                obtain ⟨b1, bsE1, rfl, hlb1⟩ := len_one hlb0
                obtain ⟨v1, vsE1, rfl, hlv1⟩ := len_one hlv0
                obtain ⟨b2, bsE2, rfl, hlb2⟩ := len_one hlb1
                obtain ⟨v2, vsE2, rfl, hlv2⟩ := len_one hlv1
                obtain ⟨b3, bsE3, rfl, hlb3⟩ := len_one hlb2
                obtain ⟨v3, vsE3, rfl, hlv3⟩ := len_one hlv2
                obtain ⟨b4, bsE4, rfl, hlb4⟩ := len_one hlb3
                obtain ⟨v4, vsE4, rfl, hlv4⟩ := len_one hlv3
                obtain ⟨b5, bsE5, rfl, hlb5⟩ := len_one hlb4
                obtain ⟨v5, vsE5, rfl, hlv5⟩ := len_one hlv4
                obtain ⟨b6, bsE6, rfl, hlb6⟩ := len_one hlb5
                obtain ⟨v6, vsE6, rfl, hlv6⟩ := len_one hlv5
                obtain ⟨b7, bsE7, rfl, hlb7⟩ := len_one hlb6
                obtain ⟨v7, vsE7, rfl, hlv7⟩ := len_one hlv6
                obtain ⟨b8, bsE8, rfl, hlb8⟩ := len_one hlb7
                obtain ⟨v8, vsE8, rfl, hlv8⟩ := len_one hlv7
                obtain ⟨b9, bsE9, rfl, hlb9⟩ := len_one hlb8
                obtain ⟨v9, vsE9, rfl, hlv9⟩ := len_one hlv8
                obtain rfl := len_nil hlb9
                obtain rfl := len_nil hlv9
                replace h : RX w0 wr (cRow l (i + 1)) k nx R x1 x2 b0 b1 b2 b3 b4 b5 b6 b7 b8 b9 v0 v1 v2 v3 v4 v5 v6 v7 v8 v9 W := h
                clear hnd
                have HST := Lib.hid h
                have u1 := (h.bel0.cell (p := ⟨bu, ou + i * 2, none⟩) lu).trans q1; have u2 := (h.bel0.cell (p := ⟨bu, ou + i * 2 + 1, none⟩) lu).trans q2; have u3 := (h.bel0.cell (p := ⟨tb, tq + k, none⟩) ht1).trans ht3; have hsz0 := h.bel0.size
                intro K Q hK
                simp only [putE, updAll, Act.put, List.setIfInBounds_toArray, List.set_cons_zero, List.set_cons_succ, List.set_nil] at hK ⊢
                go_wp2_with (fail)
                all_goals (first | exact hK _ (by first | exact h | exact h.step (by repeat' (first | exact Below.refl _ _ | apply bDrewN | apply bDrew))) | exact (by first | exact h | exact h.step (by repeat' (first | exact Below.refl _ _ | apply bDrewN | apply bDrew))))
              · refine ⟨45, (.pointer (some ⟨tb, tq + k, none⟩)), rfl, by kernel_rfl, ?_⟩
                intro bsE vsE W hlb hlv hnd h
                obtain ⟨b0, bsE0, rfl, hlb0⟩ := len_one hlb
                obtain ⟨v0, vsE0, rfl, hlv0⟩ := len_one hlv
                obtain ⟨b1, bsE1, rfl, hlb1⟩ := len_one hlb0
                obtain ⟨v1, vsE1, rfl, hlv1⟩ := len_one hlv0
                obtain ⟨b2, bsE2, rfl, hlb2⟩ := len_one hlb1
                obtain ⟨v2, vsE2, rfl, hlv2⟩ := len_one hlv1
                obtain ⟨b3, bsE3, rfl, hlb3⟩ := len_one hlb2
                obtain ⟨v3, vsE3, rfl, hlv3⟩ := len_one hlv2
                obtain ⟨b4, bsE4, rfl, hlb4⟩ := len_one hlb3
                obtain ⟨v4, vsE4, rfl, hlv4⟩ := len_one hlv3
                obtain ⟨b5, bsE5, rfl, hlb5⟩ := len_one hlb4
                obtain ⟨v5, vsE5, rfl, hlv5⟩ := len_one hlv4
                obtain ⟨b6, bsE6, rfl, hlb6⟩ := len_one hlb5
                obtain ⟨v6, vsE6, rfl, hlv6⟩ := len_one hlv5
                obtain ⟨b7, bsE7, rfl, hlb7⟩ := len_one hlb6
                obtain ⟨v7, vsE7, rfl, hlv7⟩ := len_one hlv6
                obtain ⟨b8, bsE8, rfl, hlb8⟩ := len_one hlb7
                obtain ⟨v8, vsE8, rfl, hlv8⟩ := len_one hlv7
                obtain ⟨b9, bsE9, rfl, hlb9⟩ := len_one hlb8
                obtain ⟨v9, vsE9, rfl, hlv9⟩ := len_one hlv8
                obtain rfl := len_nil hlb9
                obtain rfl := len_nil hlv9
                replace h : RX w0 wr (cRow l (i + 1)) k nx R x1 x2 b0 b1 b2 b3 b4 b5 b6 b7 b8 b9 v0 v1 v2 v3 v4 v5 v6 v7 v8 v9 W := h
                clear hnd
                have HST := Lib.hid h
                have u1 := (h.bel0.cell (p := ⟨bu, ou + i * 2, none⟩) lu).trans q1; have u2 := (h.bel0.cell (p := ⟨bu, ou + i * 2 + 1, none⟩) lu).trans q2; have u3 := (h.bel0.cell (p := ⟨tb, tq + k, none⟩) ht1).trans ht3; have hsz0 := h.bel0.size
                intro K Q hK
                simp only [putE, updAll, Act.put, List.setIfInBounds_toArray, List.set_cons_zero, List.set_cons_succ, List.set_nil] at hK ⊢
                go_wp2_with (fail)
                all_goals (first | exact hK _ (by first | exact h | exact h.step (by repeat' (first | exact Below.refl _ _ | apply bDrewN | apply bDrew))) | exact (by first | exact h | exact h.step (by repeat' (first | exact Below.refl _ _ | apply bDrewN | apply bDrew))))
              · refine ⟨46, (.slice ak R.length ck), rfl, by kernel_rfl, ?_⟩
                intro bsE vsE W hlb hlv hnd h
                obtain ⟨b0, bsE0, rfl, hlb0⟩ := len_one hlb
                obtain ⟨v0, vsE0, rfl, hlv0⟩ := len_one hlv
                obtain ⟨b1, bsE1, rfl, hlb1⟩ := len_one hlb0
                obtain ⟨v1, vsE1, rfl, hlv1⟩ := len_one hlv0
                obtain ⟨b2, bsE2, rfl, hlb2⟩ := len_one hlb1
                obtain ⟨v2, vsE2, rfl, hlv2⟩ := len_one hlv1
                obtain ⟨b3, bsE3, rfl, hlb3⟩ := len_one hlb2
                obtain ⟨v3, vsE3, rfl, hlv3⟩ := len_one hlv2
                obtain ⟨b4, bsE4, rfl, hlb4⟩ := len_one hlb3
                obtain ⟨v4, vsE4, rfl, hlv4⟩ := len_one hlv3
                obtain ⟨b5, bsE5, rfl, hlb5⟩ := len_one hlb4
                obtain ⟨v5, vsE5, rfl, hlv5⟩ := len_one hlv4
                obtain ⟨b6, bsE6, rfl, hlb6⟩ := len_one hlb5
                obtain ⟨v6, vsE6, rfl, hlv6⟩ := len_one hlv5
                obtain ⟨b7, bsE7, rfl, hlb7⟩ := len_one hlb6
                obtain ⟨v7, vsE7, rfl, hlv7⟩ := len_one hlv6
                obtain ⟨b8, bsE8, rfl, hlb8⟩ := len_one hlb7
                obtain ⟨v8, vsE8, rfl, hlv8⟩ := len_one hlv7
                obtain ⟨b9, bsE9, rfl, hlb9⟩ := len_one hlb8
                obtain ⟨v9, vsE9, rfl, hlv9⟩ := len_one hlv8
                obtain rfl := len_nil hlb9
                obtain rfl := len_nil hlv9
                replace h : RX w0 wr (cRow l (i + 1)) k nx R x1 x2 b0 b1 b2 b3 b4 b5 b6 b7 b8 b9 v0 v1 v2 v3 v4 v5 v6 v7 v8 v9 W := h
                clear hnd
                have HST := Lib.hid h
                have u1 := (h.bel0.cell (p := ⟨bu, ou + i * 2, none⟩) lu).trans q1; have u2 := (h.bel0.cell (p := ⟨bu, ou + i * 2 + 1, none⟩) lu).trans q2; have u3 := (h.bel0.cell (p := ⟨tb, tq + k, none⟩) ht1).trans ht3; have hsz0 := h.bel0.size
                intro K Q hK
                simp only [putE, updAll, Act.put, List.setIfInBounds_toArray, List.set_cons_zero, List.set_cons_succ, List.set_nil] at hK ⊢
                go_wp2_with (fail)
                all_goals (first | exact hK _ (by first | exact h | exact h.step (by repeat' (first | exact Below.refl _ _ | apply bDrewN | apply bDrew))) | exact (by first | exact h | exact h.step (by repeat' (first | exact Below.refl _ _ | apply bDrewN | apply bDrew))))
              · refine ⟨47, rfl, ?_⟩
                intro bsE vsE W hlb hlv hnd hbk h
                obtain ⟨b0, bsE0, rfl, hlb0⟩ := len_one hlb
                obtain ⟨v0, vsE0, rfl, hlv0⟩ := len_one hlv
                obtain ⟨b1, bsE1, rfl, hlb1⟩ := len_one hlb0
                obtain ⟨v1, vsE1, rfl, hlv1⟩ := len_one hlv0
                obtain ⟨b2, bsE2, rfl, hlb2⟩ := len_one hlb1
                obtain ⟨v2, vsE2, rfl, hlv2⟩ := len_one hlv1
                obtain ⟨b3, bsE3, rfl, hlb3⟩ := len_one hlb2
                obtain ⟨v3, vsE3, rfl, hlv3⟩ := len_one hlv2
                obtain ⟨b4, bsE4, rfl, hlb4⟩ := len_one hlb3
                obtain ⟨v4, vsE4, rfl, hlv4⟩ := len_one hlv3
                obtain ⟨b5, bsE5, rfl, hlb5⟩ := len_one hlb4
                obtain ⟨v5, vsE5, rfl, hlv5⟩ := len_one hlv4
                obtain ⟨b6, bsE6, rfl, hlb6⟩ := len_one hlb5
                obtain ⟨v6, vsE6, rfl, hlv6⟩ := len_one hlv5
                obtain ⟨b7, bsE7, rfl, hlb7⟩ := len_one hlb6
                obtain ⟨v7, vsE7, rfl, hlv7⟩ := len_one hlv6
                obtain ⟨b8, bsE8, rfl, hlb8⟩ := len_one hlb7
                obtain ⟨v8, vsE8, rfl, hlv8⟩ := len_one hlv7
                obtain ⟨b9, bsE9, rfl, hlb9⟩ := len_one hlb8
                obtain ⟨v9, vsE9, rfl, hlv9⟩ := len_one hlv8
                obtain rfl := len_nil hlb9
                obtain rfl := len_nil hlv9
                obtain rfl : b4 = true := hnd 4 (by simp)
                obtain rfl : b5 = false := hbk
                replace h : RX w0 wr (cRow l (i + 1)) k nx R x1 x2 b0 b1 b2 b3 true false b6 b7 b8 b9 v0 v1 v2 v3 v4 v5 v6 v7 v8 v9 W := h
                clear hnd
                have HST := Lib.hid h
                obtain rfl := h.n5; obtain rfl := h.n7; obtain rfl := h.n8; have hsz := (h.mq rfl).sz; have hat2 := HAt.out.step h.bel0
                intro K Q hK
                simp only [putE, updAll, Act.put, List.setIfInBounds_toArray, List.set_cons_zero, List.set_cons_succ, List.set_nil] at hK ⊢
                refine wp_app_copy _ (.tmp 42) (.tmp 46) rfl v4 rfl wr.heap.size [] h.own4 ak R ck rfl hat2 (by have := HRl.out; simp; omega) hsz ?_
                intro v' w' ho hg hat9
                first | exact hK _ _ (h.mk5 ho hg hat9) | exact h.mk5 ho hg hat9
              · refine ⟨48, (.slice (some ⟨bu, ou, none⟩) l.length ca), rfl, by kernel_rfl, ?_⟩
                intro bsE vsE W hlb hlv hnd h
                obtain ⟨b0, bsE0, rfl, hlb0⟩ := len_one hlb
                obtain ⟨v0, vsE0, rfl, hlv0⟩ := len_one hlv
                obtain ⟨b1, bsE1, rfl, hlb1⟩ := len_one hlb0
                obtain ⟨v1, vsE1, rfl, hlv1⟩ := len_one hlv0
                obtain ⟨b2, bsE2, rfl, hlb2⟩ := len_one hlb1
                obtain ⟨v2, vsE2, rfl, hlv2⟩ := len_one hlv1
                obtain ⟨b3, bsE3, rfl, hlb3⟩ := len_one hlb2
                obtain ⟨v3, vsE3, rfl, hlv3⟩ := len_one hlv2
                obtain ⟨b4, bsE4, rfl, hlb4⟩ := len_one hlb3
                obtain ⟨v4, vsE4, rfl, hlv4⟩ := len_one hlv3
                obtain ⟨b5, bsE5, rfl, hlb5⟩ := len_one hlb4
                obtain ⟨v5, vsE5, rfl, hlv5⟩ := len_one hlv4
                obtain ⟨b6, bsE6, rfl, hlb6⟩ := len_one hlb5
                obtain ⟨v6, vsE6, rfl, hlv6⟩ := len_one hlv5
                obtain ⟨b7, bsE7, rfl, hlb7⟩ := len_one hlb6
                obtain ⟨v7, vsE7, rfl, hlv7⟩ := len_one hlv6
                obtain ⟨b8, bsE8, rfl, hlb8⟩ := len_one hlb7
                obtain ⟨v8, vsE8, rfl, hlv8⟩ := len_one hlv7
                obtain ⟨b9, bsE9, rfl, hlb9⟩ := len_one hlb8
                obtain ⟨v9, vsE9, rfl, hlv9⟩ := len_one hlv8
                obtain rfl := len_nil hlb9
                obtain rfl := len_nil hlv9
                replace h : RX w0 wr (cRow l (i + 1)) k nx R x1 x2 b0 b1 b2 b3 b4 b5 b6 b7 b8 b9 v0 v1 v2 v3 v4 v5 v6 v7 v8 v9 W := h
                clear hnd
                have HST := Lib.hid h
                have u1 := (h.bel0.cell (p := ⟨bu, ou + i * 2, none⟩) lu).trans q1; have u2 := (h.bel0.cell (p := ⟨bu, ou + i * 2 + 1, none⟩) lu).trans q2; have u3 := (h.bel0.cell (p := ⟨tb, tq + k, none⟩) ht1).trans ht3; have hsz0 := h.bel0.size
                intro K Q hK
                simp only [putE, updAll, Act.put, List.setIfInBounds_toArray, List.set_cons_zero, List.set_cons_succ, List.set_nil] at hK ⊢
                go_wp2_with (fail)
                all_goals (first | exact hK _ (by first | exact h | exact h.step (by repeat' (first | exact Below.refl _ _ | apply bDrewN | apply bDrew))) | exact (by first | exact h | exact h.step (by repeat' (first | exact Below.refl _ _ | apply bDrewN | apply bDrew))))
              · refine ⟨49, (.int .i64 (i : Int)), rfl, by kernel_rfl, ?_⟩
                intro bsE vsE W hlb hlv hnd h
                obtain ⟨b0, bsE0, rfl, hlb0⟩ := len_one hlb
                obtain ⟨v0, vsE0, rfl, hlv0⟩ := len_one hlv
                obtain ⟨b1, bsE1, rfl, hlb1⟩ := len_one hlb0
                obtain ⟨v1, vsE1, rfl, hlv1⟩ := len_one hlv0
                obtain ⟨b2, bsE2, rfl, hlb2⟩ := len_one hlb1
                obtain ⟨v2, vsE2, rfl, hlv2⟩ := len_one hlv1
                obtain ⟨b3, bsE3, rfl, hlb3⟩ := len_one hlb2
                obtain ⟨v3, vsE3, rfl, hlv3⟩ := len_one hlv2
                obtain ⟨b4, bsE4, rfl, hlb4⟩ := len_one hlb3
                obtain ⟨v4, vsE4, rfl, hlv4⟩ := len_one hlv3
                obtain ⟨b5, bsE5, rfl, hlb5⟩ := len_one hlb4
                obtain ⟨v5, vsE5, rfl, hlv5⟩ := len_one hlv4
                obtain ⟨b6, bsE6, rfl, hlb6⟩ := len_one hlb5
                obtain ⟨v6, vsE6, rfl, hlv6⟩ := len_one hlv5
                obtain ⟨b7, bsE7, rfl, hlb7⟩ := len_one hlb6
                obtain ⟨v7, vsE7, rfl, hlv7⟩ := len_one hlv6
                obtain ⟨b8, bsE8, rfl, hlb8⟩ := len_one hlb7
                obtain ⟨v8, vsE8, rfl, hlv8⟩ := len_one hlv7
                obtain ⟨b9, bsE9, rfl, hlb9⟩ := len_one hlb8
                obtain ⟨v9, vsE9, rfl, hlv9⟩ := len_one hlv8
                obtain rfl := len_nil hlb9
                obtain rfl := len_nil hlv9
                replace h : RX w0 wr (cRow l (i + 1)) k nx R x1 x2 b0 b1 b2 b3 b4 b5 b6 b7 b8 b9 v0 v1 v2 v3 v4 v5 v6 v7 v8 v9 W := h
                clear hnd
                have HST := Lib.hid h
                have u1 := (h.bel0.cell (p := ⟨bu, ou + i * 2, none⟩) lu).trans q1; have u2 := (h.bel0.cell (p := ⟨bu, ou + i * 2 + 1, none⟩) lu).trans q2; have u3 := (h.bel0.cell (p := ⟨tb, tq + k, none⟩) ht1).trans ht3; have hsz0 := h.bel0.size
                intro K Q hK
                simp only [putE, updAll, Act.put, List.setIfInBounds_toArray, List.set_cons_zero, List.set_cons_succ, List.set_nil] at hK ⊢
                go_wp2_with (fail)
                all_goals (first | exact hK _ (by first | exact h | exact h.step (by repeat' (first | exact Below.refl _ _ | apply bDrewN | apply bDrew))) | exact (by first | exact h | exact h.step (by repeat' (first | exact Below.refl _ _ | apply bDrewN | apply bDrew))))
              · refine ⟨50, (.pointer (some ⟨bu, ou + i * 2, none⟩)), rfl, by kernel_rfl, ?_⟩
                intro bsE vsE W hlb hlv hnd h
                obtain ⟨b0, bsE0, rfl, hlb0⟩ := len_one hlb
                obtain ⟨v0, vsE0, rfl, hlv0⟩ := len_one hlv
                obtain ⟨b1, bsE1, rfl, hlb1⟩ := len_one hlb0
                obtain ⟨v1, vsE1, rfl, hlv1⟩ := len_one hlv0
                obtain ⟨b2, bsE2, rfl, hlb2⟩ := len_one hlb1
                obtain ⟨v2, vsE2, rfl, hlv2⟩ := len_one hlv1
                obtain ⟨b3, bsE3, rfl, hlb3⟩ := len_one hlb2
                obtain ⟨v3, vsE3, rfl, hlv3⟩ := len_one hlv2
                obtain ⟨b4, bsE4, rfl, hlb4⟩ := len_one hlb3
                obtain ⟨v4, vsE4, rfl, hlv4⟩ := len_one hlv3
                obtain ⟨b5, bsE5, rfl, hlb5⟩ := len_one hlb4
                obtain ⟨v5, vsE5, rfl, hlv5⟩ := len_one hlv4
                obtain ⟨b6, bsE6, rfl, hlb6⟩ := len_one hlb5
                obtain ⟨v6, vsE6, rfl, hlv6⟩ := len_one hlv5
                obtain ⟨b7, bsE7, rfl, hlb7⟩ := len_one hlb6
                obtain ⟨v7, vsE7, rfl, hlv7⟩ := len_one hlv6
                obtain ⟨b8, bsE8, rfl, hlb8⟩ := len_one hlb7
                obtain ⟨v8, vsE8, rfl, hlv8⟩ := len_one hlv7
                obtain ⟨b9, bsE9, rfl, hlb9⟩ := len_one hlb8
                obtain ⟨v9, vsE9, rfl, hlv9⟩ := len_one hlv8
                obtain rfl := len_nil hlb9
                obtain rfl := len_nil hlv9
                replace h : RX w0 wr (cRow l (i + 1)) k nx R x1 x2 b0 b1 b2 b3 b4 b5 b6 b7 b8 b9 v0 v1 v2 v3 v4 v5 v6 v7 v8 v9 W := h
                clear hnd
                have HST := Lib.hid h
                have u1 := (h.bel0.cell (p := ⟨bu, ou + i * 2, none⟩) lu).trans q1; have u2 := (h.bel0.cell (p := ⟨bu, ou + i * 2 + 1, none⟩) lu).trans q2; have u3 := (h.bel0.cell (p := ⟨tb, tq + k, none⟩) ht1).trans ht3; have hsz0 := h.bel0.size
                intro K Q hK
                simp only [putE, updAll, Act.put, List.setIfInBounds_toArray, List.set_cons_zero, List.set_cons_succ, List.set_nil] at hK ⊢
                go_wp2_with (fail)
                all_goals (first | exact hK _ (by first | exact h | exact h.step (by repeat' (first | exact Below.refl _ _ | apply bDrewN | apply bDrew))) | exact (by first | exact h | exact h.step (by repeat' (first | exact Below.refl _ _ | apply bDrewN | apply bDrew))))
              · refine ⟨51, (.pointer (some ⟨bu, ou + i * 2 + 1, none⟩)), rfl, by kernel_rfl, ?_⟩
                intro bsE vsE W hlb hlv hnd h
                obtain ⟨b0, bsE0, rfl, hlb0⟩ := len_one hlb
                obtain ⟨v0, vsE0, rfl, hlv0⟩ := len_one hlv
                obtain ⟨b1, bsE1, rfl, hlb1⟩ := len_one hlb0
                obtain ⟨v1, vsE1, rfl, hlv1⟩ := len_one hlv0
                obtain ⟨b2, bsE2, rfl, hlb2⟩ := len_one hlb1
                obtain ⟨v2, vsE2, rfl, hlv2⟩ := len_one hlv1
                obtain ⟨b3, bsE3, rfl, hlb3⟩ := len_one hlb2
                obtain ⟨v3, vsE3, rfl, hlv3⟩ := len_one hlv2
                obtain ⟨b4, bsE4, rfl, hlb4⟩ := len_one hlb3
                obtain ⟨v4, vsE4, rfl, hlv4⟩ := len_one hlv3
                obtain ⟨b5, bsE5, rfl, hlb5⟩ := len_one hlb4
                obtain ⟨v5, vsE5, rfl, hlv5⟩ := len_one hlv4
                obtain ⟨b6, bsE6, rfl, hlb6⟩ := len_one hlb5
                obtain ⟨v6, vsE6, rfl, hlv6⟩ := len_one hlv5
                obtain ⟨b7, bsE7, rfl, hlb7⟩ := len_one hlb6
                obtain ⟨v7, vsE7, rfl, hlv7⟩ := len_one hlv6
                obtain ⟨b8, bsE8, rfl, hlb8⟩ := len_one hlb7
                obtain ⟨v8, vsE8, rfl, hlv8⟩ := len_one hlv7
                obtain ⟨b9, bsE9, rfl, hlb9⟩ := len_one hlb8
                obtain ⟨v9, vsE9, rfl, hlv9⟩ := len_one hlv8
                obtain rfl := len_nil hlb9
                obtain rfl := len_nil hlv9
                replace h : RX w0 wr (cRow l (i + 1)) k nx R x1 x2 b0 b1 b2 b3 b4 b5 b6 b7 b8 b9 v0 v1 v2 v3 v4 v5 v6 v7 v8 v9 W := h
                clear hnd
                have HST := Lib.hid h
                have u1 := (h.bel0.cell (p := ⟨bu, ou + i * 2, none⟩) lu).trans q1; have u2 := (h.bel0.cell (p := ⟨bu, ou + i * 2 + 1, none⟩) lu).trans q2; have u3 := (h.bel0.cell (p := ⟨tb, tq + k, none⟩) ht1).trans ht3; have hsz0 := h.bel0.size
                intro K Q hK
                simp only [putE, updAll, Act.put, List.setIfInBounds_toArray, List.set_cons_zero, List.set_cons_succ, List.set_nil] at hK ⊢
                go_wp2_with (fail)
                all_goals (first | exact hK _ (by first | exact h | exact h.step (by repeat' (first | exact Below.refl _ _ | apply bDrewN | apply bDrew))) | exact (by first | exact h | exact h.step (by repeat' (first | exact Below.refl _ _ | apply bDrewN | apply bDrew))))
              · refine ⟨52, (.int .i64 x2), rfl, by kernel_rfl, ?_⟩
                intro bsE vsE W hlb hlv hnd h
                obtain ⟨b0, bsE0, rfl, hlb0⟩ := len_one hlb
                obtain ⟨v0, vsE0, rfl, hlv0⟩ := len_one hlv
                obtain ⟨b1, bsE1, rfl, hlb1⟩ := len_one hlb0
                obtain ⟨v1, vsE1, rfl, hlv1⟩ := len_one hlv0
                obtain ⟨b2, bsE2, rfl, hlb2⟩ := len_one hlb1
                obtain ⟨v2, vsE2, rfl, hlv2⟩ := len_one hlv1
                obtain ⟨b3, bsE3, rfl, hlb3⟩ := len_one hlb2
                obtain ⟨v3, vsE3, rfl, hlv3⟩ := len_one hlv2
                obtain ⟨b4, bsE4, rfl, hlb4⟩ := len_one hlb3
                obtain ⟨v4, vsE4, rfl, hlv4⟩ := len_one hlv3
                obtain ⟨b5, bsE5, rfl, hlb5⟩ := len_one hlb4
                obtain ⟨v5, vsE5, rfl, hlv5⟩ := len_one hlv4
                obtain ⟨b6, bsE6, rfl, hlb6⟩ := len_one hlb5
                obtain ⟨v6, vsE6, rfl, hlv6⟩ := len_one hlv5
                obtain ⟨b7, bsE7, rfl, hlb7⟩ := len_one hlb6
                obtain ⟨v7, vsE7, rfl, hlv7⟩ := len_one hlv6
                obtain ⟨b8, bsE8, rfl, hlb8⟩ := len_one hlb7
                obtain ⟨v8, vsE8, rfl, hlv8⟩ := len_one hlv7
                obtain ⟨b9, bsE9, rfl, hlb9⟩ := len_one hlb8
                obtain ⟨v9, vsE9, rfl, hlv9⟩ := len_one hlv8
                obtain rfl := len_nil hlb9
                obtain rfl := len_nil hlv9
                replace h : RX w0 wr (cRow l (i + 1)) k nx R x1 x2 b0 b1 b2 b3 b4 b5 b6 b7 b8 b9 v0 v1 v2 v3 v4 v5 v6 v7 v8 v9 W := h
                clear hnd
                have HST := Lib.hid h
                have u1 := (h.bel0.cell (p := ⟨bu, ou + i * 2, none⟩) lu).trans q1; have u2 := (h.bel0.cell (p := ⟨bu, ou + i * 2 + 1, none⟩) lu).trans q2; have u3 := (h.bel0.cell (p := ⟨tb, tq + k, none⟩) ht1).trans ht3; have hsz0 := h.bel0.size
                intro K Q hK
                simp only [putE, updAll, Act.put, List.setIfInBounds_toArray, List.set_cons_zero, List.set_cons_succ, List.set_nil] at hK ⊢
                go_wp2_with (fail)
                all_goals (first | exact hK _ (by first | exact h | exact h.step (by repeat' (first | exact Below.refl _ _ | apply bDrewN | apply bDrew))) | exact (by first | exact h | exact h.step (by repeat' (first | exact Below.refl _ _ | apply bDrewN | apply bDrew))))
              · refine ⟨53, rfl, ?_⟩
                intro bsE vsE W hlb hlv hnd hbk h
                obtain ⟨b0, bsE0, rfl, hlb0⟩ := len_one hlb
                obtain ⟨v0, vsE0, rfl, hlv0⟩ := len_one hlv
                obtain ⟨b1, bsE1, rfl, hlb1⟩ := len_one hlb0
                obtain ⟨v1, vsE1, rfl, hlv1⟩ := len_one hlv0
                obtain ⟨b2, bsE2, rfl, hlb2⟩ := len_one hlb1
                obtain ⟨v2, vsE2, rfl, hlv2⟩ := len_one hlv1
                obtain ⟨b3, bsE3, rfl, hlb3⟩ := len_one hlb2
                obtain ⟨v3, vsE3, rfl, hlv3⟩ := len_one hlv2
                obtain ⟨b4, bsE4, rfl, hlb4⟩ := len_one hlb3
                obtain ⟨v4, vsE4, rfl, hlv4⟩ := len_one hlv3
                obtain ⟨b5, bsE5, rfl, hlb5⟩ := len_one hlb4
                obtain ⟨v5, vsE5, rfl, hlv5⟩ := len_one hlv4
                obtain ⟨b6, bsE6, rfl, hlb6⟩ := len_one hlb5
                obtain ⟨v6, vsE6, rfl, hlv6⟩ := len_one hlv5
                obtain ⟨b7, bsE7, rfl, hlb7⟩ := len_one hlb6
                obtain ⟨v7, vsE7, rfl, hlv7⟩ := len_one hlv6
                obtain ⟨b8, bsE8, rfl, hlb8⟩ := len_one hlb7
                obtain ⟨v8, vsE8, rfl, hlv8⟩ := len_one hlv7
                obtain ⟨b9, bsE9, rfl, hlb9⟩ := len_one hlb8
                obtain ⟨v9, vsE9, rfl, hlv9⟩ := len_one hlv8
                obtain rfl := len_nil hlb9
                obtain rfl := len_nil hlv9
                obtain rfl : b6 = false := hbk
                replace h : RX w0 wr (cRow l (i + 1)) k nx R x1 x2 b0 b1 b2 b3 b4 b5 false b7 b8 b9 v0 v1 v2 v3 v4 v5 v6 v7 v8 v9 W := h
                clear hnd
                have HST := Lib.hid h
                have u1 := (h.bel0.cell (p := ⟨bu, ou + i * 2, none⟩) lu).trans q1; have u2 := (h.bel0.cell (p := ⟨bu, ou + i * 2 + 1, none⟩) lu).trans q2; have u3 := (h.bel0.cell (p := ⟨tb, tq + k, none⟩) ht1).trans ht3; have hsz0 := h.bel0.size
                intro K Q hK
                simp only [putE, updAll, Act.put, List.setIfInBounds_toArray, List.set_cons_zero, List.set_cons_succ, List.set_nil] at hK ⊢
                go_wp2_with fail
                all_goals (first | exact hK _ _ h.mk6 | exact h.mk6)
              · refine ⟨54, rfl, ?_⟩
                intro bsE vsE W hlb hlv hnd hbk h
                obtain ⟨b0, bsE0, rfl, hlb0⟩ := len_one hlb
                obtain ⟨v0, vsE0, rfl, hlv0⟩ := len_one hlv
                obtain ⟨b1, bsE1, rfl, hlb1⟩ := len_one hlb0
                obtain ⟨v1, vsE1, rfl, hlv1⟩ := len_one hlv0
                obtain ⟨b2, bsE2, rfl, hlb2⟩ := len_one hlb1
                obtain ⟨v2, vsE2, rfl, hlv2⟩ := len_one hlv1
                obtain ⟨b3, bsE3, rfl, hlb3⟩ := len_one hlb2
                obtain ⟨v3, vsE3, rfl, hlv3⟩ := len_one hlv2
                obtain ⟨b4, bsE4, rfl, hlb4⟩ := len_one hlb3
                obtain ⟨v4, vsE4, rfl, hlv4⟩ := len_one hlv3
                obtain ⟨b5, bsE5, rfl, hlb5⟩ := len_one hlb4
                obtain ⟨v5, vsE5, rfl, hlv5⟩ := len_one hlv4
                obtain ⟨b6, bsE6, rfl, hlb6⟩ := len_one hlb5
                obtain ⟨v6, vsE6, rfl, hlv6⟩ := len_one hlv5
                obtain ⟨b7, bsE7, rfl, hlb7⟩ := len_one hlb6
                obtain ⟨v7, vsE7, rfl, hlv7⟩ := len_one hlv6
                obtain ⟨b8, bsE8, rfl, hlb8⟩ := len_one hlb7
                obtain ⟨v8, vsE8, rfl, hlv8⟩ := len_one hlv7
                obtain ⟨b9, bsE9, rfl, hlb9⟩ := len_one hlb8
                obtain ⟨v9, vsE9, rfl, hlv9⟩ := len_one hlv8
                obtain rfl := len_nil hlb9
                obtain rfl := len_nil hlv9
                obtain rfl : b5 = true := hnd 5 (by simp)
                obtain rfl : b6 = true := hnd 6 (by simp)
                obtain rfl : b7 = false := hbk
                replace h : RX w0 wr (cRow l (i + 1)) k nx R x1 x2 b0 b1 b2 b3 b4 true true false b8 b9 v0 v1 v2 v3 v4 v5 v6 v7 v8 v9 W := h
                clear hnd
                have HST := Lib.hid h
                obtain rfl := h.n7; obtain rfl := h.n8; have hsz := (h.mq rfl).sz; obtain ⟨a0, c0, e0, hat0⟩ := IntOwn.row h.src6; subst e0
                intro K Q hK
                simp only [putE, updAll, Act.put, List.setIfInBounds_toArray, List.set_cons_zero, List.set_cons_succ, List.set_nil] at hK ⊢
                refine wp_app_copy _ (.tmp 47) (.tmp 53) rfl v5 rfl wr.heap.size R h.own5 a0 [x2] c0 rfl hat0 (by have := HRl.out; simp; omega) hsz ?_
                intro v' w' ho hg hat9
                first | exact hK _ _ (h.mk7 ho hg hat9) | exact h.mk7 ho hg hat9
              · refine ⟨55, rfl, ?_⟩
                intro bsE vsE W hlb hlv hnd hbk h
                obtain ⟨b0, bsE0, rfl, hlb0⟩ := len_one hlb
                obtain ⟨v0, vsE0, rfl, hlv0⟩ := len_one hlv
                obtain ⟨b1, bsE1, rfl, hlb1⟩ := len_one hlb0
                obtain ⟨v1, vsE1, rfl, hlv1⟩ := len_one hlv0
                obtain ⟨b2, bsE2, rfl, hlb2⟩ := len_one hlb1
                obtain ⟨v2, vsE2, rfl, hlv2⟩ := len_one hlv1
                obtain ⟨b3, bsE3, rfl, hlb3⟩ := len_one hlb2
                obtain ⟨v3, vsE3, rfl, hlv3⟩ := len_one hlv2
                obtain ⟨b4, bsE4, rfl, hlb4⟩ := len_one hlb3
                obtain ⟨v4, vsE4, rfl, hlv4⟩ := len_one hlv3
                obtain ⟨b5, bsE5, rfl, hlb5⟩ := len_one hlb4
                obtain ⟨v5, vsE5, rfl, hlv5⟩ := len_one hlv4
                obtain ⟨b6, bsE6, rfl, hlb6⟩ := len_one hlb5
                obtain ⟨v6, vsE6, rfl, hlv6⟩ := len_one hlv5
                obtain ⟨b7, bsE7, rfl, hlb7⟩ := len_one hlb6
                obtain ⟨v7, vsE7, rfl, hlv7⟩ := len_one hlv6
                obtain ⟨b8, bsE8, rfl, hlb8⟩ := len_one hlb7
                obtain ⟨v8, vsE8, rfl, hlv8⟩ := len_one hlv7
                obtain ⟨b9, bsE9, rfl, hlb9⟩ := len_one hlb8
                obtain ⟨v9, vsE9, rfl, hlv9⟩ := len_one hlv8
                obtain rfl := len_nil hlb9
                obtain rfl := len_nil hlv9
                obtain rfl : b3 = true := hnd 3 (by simp)
                obtain rfl : b7 = true := hnd 7 (by simp)
                obtain rfl : b8 = false := hbk
                replace h : RX w0 wr (cRow l (i + 1)) k nx R x1 x2 b0 b1 b2 true b4 b5 b6 true false b9 v0 v1 v2 v3 v4 v5 v6 v7 v8 v9 W := h
                clear hnd
                have HST := Lib.hid h
                obtain rfl := h.n8; obtain ⟨r1, r2⟩ := h.rows; obtain ⟨a3, c3, e3, -⟩ := IntOwn.row r1; obtain ⟨a7, c7, e7, -⟩ := IntOwn.row r2; rw [List.length_append, List.length_singleton] at e3 e7; subst e3 e7
                intro K Q hK
                simp only [putE, updAll, Act.put, List.setIfInBounds_toArray, List.set_cons_zero, List.set_cons_succ, List.set_nil] at hK ⊢
                have hm := h.mk8
                go_wp2_with fail
                all_goals (first | exact hK _ _ hm | exact hm | (simp only [List.length_append, List.length_singleton] at hm; exact hm) | (simp only [List.length_append, List.length_singleton] at hm; exact hK _ _ hm))
              · refine ⟨56, rfl, ?_⟩
                intro bsE vsE W hlb hlv hnd hbk h
                obtain ⟨b0, bsE0, rfl, hlb0⟩ := len_one hlb
                obtain ⟨v0, vsE0, rfl, hlv0⟩ := len_one hlv
                obtain ⟨b1, bsE1, rfl, hlb1⟩ := len_one hlb0
                obtain ⟨v1, vsE1, rfl, hlv1⟩ := len_one hlv0
                obtain ⟨b2, bsE2, rfl, hlb2⟩ := len_one hlb1
                obtain ⟨v2, vsE2, rfl, hlv2⟩ := len_one hlv1
                obtain ⟨b3, bsE3, rfl, hlb3⟩ := len_one hlb2
                obtain ⟨v3, vsE3, rfl, hlv3⟩ := len_one hlv2
                obtain ⟨b4, bsE4, rfl, hlb4⟩ := len_one hlb3
                obtain ⟨v4, vsE4, rfl, hlv4⟩ := len_one hlv3
                obtain ⟨b5, bsE5, rfl, hlb5⟩ := len_one hlb4
                obtain ⟨v5, vsE5, rfl, hlv5⟩ := len_one hlv4
                obtain ⟨b6, bsE6, rfl, hlb6⟩ := len_one hlb5
                obtain ⟨v6, vsE6, rfl, hlv6⟩ := len_one hlv5
                obtain ⟨b7, bsE7, rfl, hlb7⟩ := len_one hlb6
                obtain ⟨v7, vsE7, rfl, hlv7⟩ := len_one hlv6
                obtain ⟨b8, bsE8, rfl, hlb8⟩ := len_one hlb7
                obtain ⟨v8, vsE8, rfl, hlv8⟩ := len_one hlv7
                obtain ⟨b9, bsE9, rfl, hlb9⟩ := len_one hlb8
                obtain ⟨v9, vsE9, rfl, hlv9⟩ := len_one hlv8
                obtain rfl := len_nil hlb9
                obtain rfl := len_nil hlv9
                obtain rfl : b8 = true := hnd 8 (by simp)
                obtain rfl : b9 = false := hbk
                replace h : RX w0 wr (cRow l (i + 1)) k nx R x1 x2 b0 b1 b2 b3 b4 b5 b6 b7 true false v0 v1 v2 v3 v4 v5 v6 v7 v8 v9 W := h
                clear hnd
                have HST := Lib.hid h
                obtain ⟨rfl, rfl⟩ := h.i8 rfl; obtain ⟨g, e8', c80, c81⟩ := h.e8 rfl rfl; subst e8'; obtain ⟨r1, r2⟩ := h.rows; obtain ⟨a3, c3, e3, -⟩ := IntOwn.row r1; obtain ⟨a7, c7, e7, -⟩ := IntOwn.row r2; obtain ⟨hbN, vs, hvs, hrows⟩ := h.nx3.step (h.mq rfl).bel; have hsz0 := h.bel0.size
                intro K Q hK
                simp only [putE, updAll, Act.put, List.setIfInBounds_toArray, List.set_cons_zero, List.set_cons_succ, List.set_nil] at hK ⊢
                refine wp_append_own_at _ (.tmp 28) (.tmp 55) 57 rfl w0.heap.size 22 i0 (.slice none 0 0) 1 24 Try.underlying57 hi hz0 hz1 hz2 rfl (by decide) nx (2 * k) vs rfl hvs ⟨g, 0, none⟩ 2 2 [v3, v7] rfl rfl (two_cellsI c80 c81) (by intro u hu; simp only [List.mem_cons, List.not_mem_nil, or_false] at hu; rcases hu with rfl | rfl; (rw [e3]; rfl); (rw [e7]; rfl)) (by unfold maxLen; omega) (by omega) hsz0 ?_
                intro v' w' hown hgrow hat9
                first | exact hK _ _ (h.mk9 HFa.out HFb.out vs hvs hrows hown hgrow) | exact h.mk9 HFa.out HFb.out vs hvs hrows hown hgrow
            case tail =>
              intro vsE W hlv h
              obtain ⟨v0, vsE0, rfl, hlv0⟩ := len_one hlv
              obtain ⟨v1, vsE1, rfl, hlv1⟩ := len_one hlv0
              obtain ⟨v2, vsE2, rfl, hlv2⟩ := len_one hlv1
              obtain ⟨v3, vsE3, rfl, hlv3⟩ := len_one hlv2
              obtain ⟨v4, vsE4, rfl, hlv4⟩ := len_one hlv3
              obtain ⟨v5, vsE5, rfl, hlv5⟩ := len_one hlv4
              obtain ⟨v6, vsE6, rfl, hlv6⟩ := len_one hlv5
              obtain ⟨v7, vsE7, rfl, hlv7⟩ := len_one hlv6
              obtain ⟨v8, vsE8, rfl, hlv8⟩ := len_one hlv7
              obtain ⟨v9, vsE9, rfl, hlv9⟩ := len_one hlv8
              obtain rfl := len_nil hlv9
              replace h : RX w0 wr (cRow l (i + 1)) k nx R x1 x2 true true true true true true true true true true v0 v1 v2 v3 v4 v5 v6 v7 v8 v9 W := h
              have HST := Lib.hid h
              have hF := Lib.hid (h.fin rfl)
              refine wpOp_plain rfl rfl ?_
              simp only [putE, updAll, Act.put, List.setIfInBounds_toArray, List.set_cons_zero, List.set_cons_succ, List.set_nil]
              go_wp2_with fail
              go_roundw
              case rel => exact ⟨k + 1, _, by omega, by push_cast; rfl, rfl, hF⟩
              case measure => (simp [intOf]; omega)
          · obtain rfl : k = P := by omega
            have hle : ¬ (k : Int) < k := by omega
            obtain ⟨a9, c9, rfl, htab⟩ := P1.out.tab
            have HTb := Lib.hid htab
            have HBw := Lib.hid (bStep HB.out P1.out.bel)
            clear htab HT2 HF1 HF2 HLn
            go_wp2_with fail
            go_roundw
            case rel => exact ⟨i + 1, a9, c9, by omega, by push_cast; rfl, by rw [hP2.out], by unfold Hid; rw [hP2.out]; exact HTb.out, HBw⟩
            case measure => (simp [intOf]; omega)
      · obtain rfl : i = l.length := by omega
        have hle : ¬ ((l.length : Nat) : Int) < l.length := by omega
        rw [← HYtkldlmbccdfjdaa.out] at HT ⊢
        have HR := Lib.hid (show TabRow (.slice a5 Ytkldlmbccdfjdaa0 c5) Ytkldlmbccdfjdaa0 (cRow l l.length) wr from ⟨_, _, rfl, HT.out⟩)
        clear HT HYtkldlmbccdfjdaa
        go_wp2_with fail
        exact bodyPost_ret (v := .tuple #[.slice a5 Ytkldlmbccdfjdaa0 c5, .int .i64 0]) (by simp only [results, Try.results35]; go_simp) rfl ⟨_, rfl, HR.out, (by repeat' (first | exact Below.refl _ _ | assumption | apply bDrewN | apply bDrew | apply bAlloc | (refine bSet ?_ ?_ _) | (refine bStep ?_ (by assumption)) | omega | (simp <;> omega)))⟩
  · have hN : cornN l = 0 := if_neg h0
    rw [hN]
    generalize checkB l = z at *
    clear hN hA
    go_enter Try.func35, Try.ntmps35
    go_wp2_with (go_at_call 20; refine (C.out _ HV.out).mono ?_; rintro e w1 ⟨rfl, hb1⟩)
    exact bodyPost_ret (v := .tuple #[.slice none 0 0, .int .i64 z]) (by simp only [results, Try.results35]; go_simp) rfl ⟨_, rfl, TabRow.nil, (by repeat' (first | exact Below.refl _ _ | assumption | apply bDrewN | apply bDrew | apply bAlloc | (refine bSet ?_ ?_ _) | (refine bStep ?_ (by assumption)) | omega | (simp <;> omega)))⟩

end Go.Proofs.Ytkldlmbccdfjdaa

/-
  A curve opened.
-/
set_option linter.unusedSimpArgs false
set_option linter.unusedVariables false
namespace Go.Proofs.Ytkldlmbccdfjdaa
open Go.ChangeShapes Go.WideShapes Go.RowKit
section
variable {H : Type} {enc : TypeId × Value → H} {W : World} {held : Bool} {base : Nat}
theorem ints_open {t e : TypeId} {n : Nat} {v : Value} {x : DataW H × List MemPlace} (ht : Try.prog.underlying t = some (.slice e)) (he : Try.prog.underlying e = some (.int .i64)) (hc : Try.prog.cellsOf e = 1) (h : DataW.trod enc Try.prog W 0 (fun _ => true) held n t [v] = some x) :
    ∃ (a : Option Addr) (c : Nat) (m : List Int), v = .slice a m.length c ∧ IntAt a m W := by
  rcases open_ints ht he hc h with ⟨hcs, _⟩ | ⟨a, len, cap, zs, hcs, hb, hl, hm, hz, hx, hcell, hwf⟩
  · simp only [List.cons.injEq, and_true] at hcs
    exact ⟨none, 0, [], hcs, fun hn => absurd rfl hn⟩
  · simp only [List.cons.injEq, and_true] at hcs
    simp only [if_true] at hz
    have hlen : (zs.take len).length = len := by simp; omega
    refine ⟨some a, cap, zs.take len, by rw [hlen]; exact hcs, fun hn => ?_⟩
    have h0 : 0 < len := by
      rcases Nat.eq_zero_or_pos len with e | e
      · subst e; exact absurd (by simp) hn
      · exact e
    obtain ⟨b, off, spot⟩ := a
    have hspot : spot = none := by simpa [Addr.add] using World.cell?_spot (hcell 0 (by omega))
    subst hspot
    have hadd : ∀ j, ((⟨b, off, none⟩ : Addr).add j) = ⟨b, off + j, none⟩ := fun j => by simp [Addr.add]
    have hc0 := hcell 0 (by omega)
    refine ⟨b, off, rfl, ?_, fun k hk => ?_⟩
    · rw [hadd] at hc0
      exact cell_lt hc0
    · rw [hlen] at hk
      have h1 := hcell k (by omega)
      rw [hadd] at h1
      have e1 : (zs.take len).getD k 0 = zs.getD k 0 := by simp [List.getD_eq_getElem?_getD, List.getElem?_take_of_lt hk]
      rw [e1]
      exact h1
theorem list2 : ∀ {l : List Value}, l.length = 2 → ∃ c0 c1 : Value, l = [c0, c1]
  | [c0, c1], _ => ⟨c0, c1, rfl⟩
set_option maxRecDepth 100000 in
theorem curve_open {v : Value} {d : DataW H} {p : List MemPlace} (hv : Value.okWide Try.prog W .any base 24 v) (h : DataW.Trod enc Try.prog W 0 (fun _ => true) held 24 v d p) :
    ∃ (a b : Option Addr) (ca cb : Nat) (xs ys : List Int), v = .agg #[.slice a xs.length ca, .slice b ys.length cb] ∧ IntAt a xs W ∧ IntAt b ys W := by
  obtain ⟨cs, rfl, hsz⟩ := okWide_struct Try.underlying24 hv
  have h2 : Try.prog.cellsOf 24 = 2 := by kernel_rfl
  obtain ⟨l⟩ := cs
  rw [h2] at hsz
  obtain ⟨c0, c1, rfl⟩ := list2 (l := l) (by simpa using hsz)
  obtain ⟨n, ht⟩ := h
  obtain ⟨xs, m, -, -, -, hx, hall⟩ := DataW.trod_struct Try.underlying24 (by simpa [Value.cells] using ht)
  have e1 : Try.prog.cellsOf 22 = 1 := by kernel_rfl
  have hx4 : ∀ j, j < 2 → ∃ x, xs[j]? = some x := fun j hj => ⟨xs[j]'(by rw [hx]; exact hj), List.getElem?_eq_getElem _⟩
  obtain ⟨y0, q0⟩ := hx4 0 (by decide)
  obtain ⟨y1, q1⟩ := hx4 1 (by decide)
  have h9 := hall 0 _ rfl
  have h8 := hall 1 _ rfl
  rw [q0] at h9
  rw [q1] at h8
  have g9 : DataW.trod enc Try.prog W 0 (fun _ => true) held m 22 (([c0, c1].drop 0).take (Try.prog.cellsOf 22)) = some y0 := h9
  have g8 : DataW.trod enc Try.prog W 0 (fun _ => true) held m 22 (([c0, c1].drop 1).take (Try.prog.cellsOf 22)) = some y1 := h8
  rw [e1] at g9 g8
  obtain ⟨a, ca, xs', e2, hA⟩ := ints_open (v := c0) Try.underlying22 Try.underlying2 (by kernel_rfl) g9
  obtain ⟨b, cb, ys', e3, hB⟩ := ints_open (v := c1) Try.underlying22 Try.underlying2 (by kernel_rfl) g8
  subst e2 e3
  exact ⟨a, b, ca, cb, xs', ys', rfl, hA, hB⟩
end
end Go.Proofs.Ytkldlmbccdfjdaa

/-
  points at equal tables; slices of spans and of numbers opened.
-/
set_option linter.unusedSimpArgs false
set_option linter.unusedVariables false
namespace Go.Proofs.Ytkldlmbccdfjdaa
open Go.ChangeShapes Go.WideShapes Go.ChangeAt Go.RowKit Go.Deep
theorem Same_eqO (a b : Option Addr) (ca cb : Nat) (l : List Int) (w : World) (hl : l.length ≤ 1000000) (hA : IntAt a l w) (hB : IntAt b l w) :
    Calls Try.prog 43 #[.slice a l.length ca, .slice b l.length cb] w fun e w' => e = .returned (.bool true) ∧ Below w.heap.size w w' := by
  have h := SameI_row a b ca cb l l w hl hl hA hB
  rw [decide_eq_true rfl] at h
  exact h
set_option maxHeartbeats 2000000 in
set_option maxRecDepth 20000 in
theorem points_eq (v u : Value) (n : Nat) (f : Nat → List Int) (w : World) (hn : n ≤ 1000000) (hf : ∀ k, (f k).length ≤ 1000) (hv : TabRow v n f w) (hu : TabRow u n f w) :
    Calls Try.prog 36 #[v, u] w fun e w' => e = .returned (.bool true) ∧ Below w.heap.size w w' := by
  obtain ⟨a, ca, rfl, hA⟩ := hv
  obtain ⟨b, cb, rfl, hB⟩ := hu
  have HA := Lib.hid hA
  have HB := Lib.hid hB
  have HF := Lib.hid hf
  clear hA hB hf
  go_enter Try.func36, Try.ntmps36
  go_wp2_with fail
  go_loopw [5] (fun i wr => ∃ k : Nat, k ≤ n ∧ i = .int .i64 k ∧ Hid (Below w.heap.size w wr)) (fun i _ => n - (intOf i).toNat)
  case atStart => exact ⟨0, by omega, rfl, Below.refl _ _⟩
  case round =>
    obtain ⟨k, hk, rfl, HW⟩ := hrel
    have hb := HW.out
    by_cases hlt : k < n
    · have hlt2 : (k : Int) < n := by omega
      obtain ⟨ba, oa, rfl, la, ha⟩ := HA.out.step hb (by omega)
      obtain ⟨bb, ob, rfl, lb, hb2⟩ := HB.out.step hb (by omega)
      obtain ⟨a1, c1, p1, p2⟩ := ha k hlt
      obtain ⟨a2, c2, q1, q2⟩ := hb2 k hlt
      have hl := HF.out k
      clear ha hb2
      generalize f k = R at *
      have hS1 : ∀ s : WStep wr, s.1.cell? ⟨ba, oa + k, none⟩ = some (.slice a1 R.length c1) := fun s => cell_step p1 s.2
      have hS2 : ∀ s : WStep wr, s.1.cell? ⟨bb, ob + k, none⟩ = some (.slice a2 R.length c2) := fun s => cell_step q1 s.2
      have CX : ∀ s : WStep wr, Calls Try.prog 43 #[.slice a1 R.length c1, .slice a2 R.length c2] s.1 fun e w' => e = .returned (.bool true) ∧ ∃ t : WStep wr, w' = t.1 := fun s => step_call s (Same_eqO a1 a2 c1 c2 R s.1 (by omega) (p2.step s.2) (q2.step s.2))
      have CZ := Lib.hid CX
      clear CX p2 q2
      go_wp2_with fail
      refine wp_region_step (by kernel_rfl) (by kernel_rfl) ?_
      repeat (quiet_step (with_reducible exact CZ.out _))
      refine wpQuiet_nil ?_
      intro _ hw'
      obtain ⟨⟨W2, hW2⟩, hw''⟩ := hw'
      dsimp only at hw''
      subst hw''
      go_wp2_with fail
      go_roundw
      case rel => exact ⟨k + 1, by omega, by push_cast; rfl, bStep hb hW2⟩
      case measure => (simp [intOf]; omega)
    · obtain rfl : k = n := by omega
      have hle : ¬ (k : Int) < k := by omega
      go_wp2_with fail
      go_ret
      exact ⟨rfl, (by repeat' (first | exact Below.refl _ _ | assumption | apply bDrewN | apply bDrew | apply bAlloc | (refine bSet ?_ ?_ _) | (refine bStep ?_ (by assumption)) | omega | (simp <;> omega)))⟩
section
variable {H : Type} {enc : TypeId × Value → H} {W : World} {spare : Nat → Bool} {held : Bool}
set_option maxRecDepth 20000 in
theorem span_cells {n : Nat} {cs : List Value} {x : DataW H × List MemPlace} (h : DataW.trod enc Try.prog W 0 spare held n 40 cs = some x) : ∃ s : Int × Int, cs = [.int .i64 s.1, .int .i64 s.2] := by
  obtain ⟨xs, k, hk, hxy, hcl, hxl, hf⟩ := DataW.trod_struct Try.underlying40 h
  rw [show Try.prog.cellsOf 40 = 2 by kernel_rfl] at hcl
  match xs, hxl, cs, hcl with
  | [y0, y1], _, [v0, v1], _ =>
    have g0 := hf 0 _ rfl
    have g1 := hf 1 _ rfl
    have k0 : Try.prog.cellsOf 2 = 1 := by kernel_rfl
    simp only [List.getElem_toArray, List.getElem_cons_zero, List.getElem_cons_succ] at g0 g1
    rw [k0] at g0 g1
    simp only [List.drop_zero, List.drop_succ_cons, List.take_succ_cons, List.take_zero, List.getElem?_cons_zero, List.getElem?_cons_succ] at g0 g1
    obtain ⟨a0, b0, -, w0⟩ := DataW.trod_int Try.underlying2 g0
    obtain ⟨a1, b1, -, w1⟩ := DataW.trod_int Try.underlying2 g1
    simp only [List.cons.injEq, and_true] at b0 b1
    subst b0
    subst b1
    exact ⟨(a0, a1), rfl⟩
theorem spans_openP {n : Nat} {v : Value} {x : DataW H × List MemPlace} (h : DataW.trod enc Try.prog W 0 (fun _ => true) held n 47 [v] = some x) :
    ∃ (a : Option Addr) (c : Nat) (l : List (Int × Int)), v = .slice a l.length c ∧ SpAt a l W := by
  rcases open_slice Try.underlying47 h with ⟨hcs, _⟩ | ⟨a, len, cap, m, n', D, Pl, hcs, hb, hl, hm, hmm, hx, hi⟩
  · simp only [List.cons.injEq, and_true] at hcs
    exact ⟨none, 0, [], hcs, fun hn => absurd rfl hn⟩
  · simp only [List.cons.injEq, and_true] at hcs
    simp only [if_true] at hmm
    subst hmm
    rw [show Try.prog.cellsOf 40 = 2 by kernel_rfl] at hi
    have each : ∀ i, i < len → ∃ s : Int × Int, W.cell? (a.add (i * 2)) = some (.int .i64 s.1) ∧ W.cell? (a.add (i * 2 + 1)) = some (.int .i64 s.2) := by
      intro i hlt
      obtain ⟨cs', h1, h2⟩ := hi i (by omega)
      obtain ⟨s, rfl⟩ := span_cells h2
      obtain ⟨_, _, hc⟩ := World.cells?_some h1
      have c0 := hc 0 (by omega)
      have c1 := hc 1 (by omega)
      rw [add_add] at c0 c1
      exact ⟨s, by simpa using c0, by simpa using c1⟩
    obtain ⟨f, hf⟩ := choose_lt each
    have hlen : ((List.range len).map f).length = len := by simp
    have hget : ∀ k, k < len → ((List.range len).map f).getD k (0, 0) = f k := fun k hk => by simp [List.getD_eq_getElem?_getD, hk]
    refine ⟨some a, m, (List.range len).map f, by rw [hlen]; exact hcs, fun hn => ?_⟩
    have h0 : 0 < len := by
      rcases Nat.eq_zero_or_pos len with e | e
      · subst e; exact absurd rfl hn
      · exact e
    obtain ⟨b, off, spot⟩ := a
    have hspot : spot = none := by simpa [Addr.add] using World.cell?_spot (hf 0 h0).1
    subst hspot
    have hadd : ∀ j, ((⟨b, off, none⟩ : Addr).add j) = ⟨b, off + j, none⟩ := fun j => by simp [Addr.add]
    have hc0 := (hf 0 h0).1
    refine ⟨b, off, rfl, ?_, fun k hk => ?_⟩
    · rw [hadd] at hc0
      exact cell_lt hc0
    · rw [hlen] at hk
      rw [hget k hk]
      obtain ⟨q1, q2⟩ := hf k hk
      rw [hadd] at q1 q2
      exact ⟨q1, q2⟩
end
end Go.Proofs.Ytkldlmbccdfjdaa

/-
  The walk of QuantityBoxes.
-/
set_option linter.unusedSimpArgs false
set_option linter.unusedVariables false
namespace Go.Proofs.Ytkldlmbccdfjdaa
open Go.RowKit
theorem pairs_len8 (g : SpF) (l m : List (Int × Int)) : (pairsS g l m).1.length ≤ 8 := by
  rw [pairs_boxes]
  split
  · simp
  · rename_i h
    have := boxes_good (Classical.not_not.1 h)
    split
    · rw [outs_len]; exact this.1
    · simp
theorem halve_len (l : List (Int × Int)) (i : Int) : (halveS l i).1.1.length ≤ l.length ∧ (halveS l i).1.2.length ≤ l.length := by
  unfold halveS
  split
  · simp
  · split
    · simp
    · split
      · simp
      · simp
theorem cornN_le {l : List (Int × Int)} : cornN l ≤ 256 := by
  unfold cornN
  split
  · rename_i h
    have h8 := (checkB_ok.1 h).1
    exact Nat.le_trans (Nat.pow_le_pow_right (by decide) h8) (by decide)
  · omega
theorem SameBox_eq (v u : Value) (l : List (Int × Int)) (w : World) (hl : l.length ≤ 1000000) (hv : SpRow v l w) (hu : SpRow u l w) : Calls Try.prog 27 #[v, u] w fun e w' => e = .returned (.bool true) ∧ Below w.heap.size w w' := by
  have h := SameBox_row v u l l w hl hl hv hu
  rw [decide_eq_true rfl] at h
  exact h
set_option maxHeartbeats 4000000 in
set_option maxRecDepth 20000 in
theorem Boxes_core (va vb vp : Value) (la lb : List (Int × Int)) (ps : List Int) (i : Int) (w : World) (hA : SpRow va la w) (hB : SpRow vb lb w) (hP : IntRow vp ps w) (hi1 : -9223372036854775808 ≤ i) (hi2 : i ≤ 9223372036854775807) :
    Calls Try.prog 5 #[va, vb, vp, .int .i64 i] w fun e w' => e = .returned (.bool true) ∧ Below w.heap.size w w' := by
  by_cases hlen : la.length ≤ 50 ∧ lb.length ≤ 50 ∧ ps.length ≤ 50
  · obtain ⟨h1, h2, h3⟩ := hlen
    have HA := Lib.hid hA
    have HB := Lib.hid hB
    have HP := Lib.hid hP
    obtain ⟨pa, ca, rfl, -⟩ := hA
    obtain ⟨pb, cb, rfl, -⟩ := hB
    obtain ⟨pp, cp, rfl, -⟩ := hP
    have h50 : (la.length : Int) ≤ 50 ∧ (lb.length : Int) ≤ 50 ∧ (ps.length : Int) ≤ 50 := by omega
    obtain ⟨h1', h2', h3'⟩ := h50
    have C1 := Lib.hid (fun W h => CheckBox_row (.slice pa la.length ca) la W (by omega) h)
    have C2 := Lib.hid (fun W h => RCheckBox_row (.slice pa la.length ca) la W (by omega) h)
    have D1 := Lib.hid (fun W h k => BoxHas_row (.slice pa la.length ca) (.slice pp ps.length cp) la ps W (by omega) (by omega) h k)
    have D2 := Lib.hid (fun W h k => RBoxHas_row (.slice pa la.length ca) (.slice pp ps.length cp) la ps W (by omega) (by omega) h k)
    have E1 := Lib.hid (fun W h k => BoxInside_row (.slice pa la.length ca) (.slice pb lb.length cb) la lb W (by omega) (by omega) h k)
    have E2 := Lib.hid (fun W h k => RBoxInside_row (.slice pa la.length ca) (.slice pb lb.length cb) la lb W (by omega) (by omega) h k)
    have F1 := Lib.hid (fun W h k => BoxMeet_row (.slice pa la.length ca) (.slice pb lb.length cb) la lb W (by omega) (by omega) h k)
    have F2 := Lib.hid (fun W h k => RBoxmeet_row (.slice pa la.length ca) (.slice pb lb.length cb) la lb W (by omega) (by omega) h k)
    have G1 := Lib.hid (fun W h k => BoxHull_row (.slice pa la.length ca) (.slice pb lb.length cb) la lb W (by omega) (by omega) h k)
    have G2 := Lib.hid (fun W h k => RBoxhull_row (.slice pa la.length ca) (.slice pb lb.length cb) la lb W (by omega) (by omega) h k)
    have W1 := Lib.hid (fun W h => Widest_row (.slice pa la.length ca) la W (by omega) h)
    have W2 := Lib.hid (fun W h => RWidest_row (.slice pa la.length ca) la W (by omega) h)
    have J1 := Lib.hid (fun W h => Halve_row (.slice pa la.length ca) la i W (by omega) hi1 hi2 h)
    have J2 := Lib.hid (fun W h => RHalve_row (.slice pa la.length ca) la i W (by omega) hi1 hi2 h)
    have K1 := Lib.hid (fun W h => Corners_row (.slice pa la.length ca) la W (by omega) h)
    have K2 := Lib.hid (fun W h => RCorners_row (.slice pa la.length ca) la W (by omega) h)
    have L1 := pairs_len8 meetS la lb
    have L2 := pairs_len8 hullS la lb
    have L3 := halve_len la i
    have L4 := cornN_le (l := la)
    have L5 := Lib.hid (fun k => show (cRow la la.length k).length ≤ 1000 by rw [cRow_len]; omega)
    generalize checkB la = cB at *
    generalize boxHasS la ps = bH at *
    generalize allS insideS la lb = bI at *
    generalize pairsS meetS la lb = PM at *
    generalize pairsS hullS la lb = PH at *
    generalize widestS la = WS at *
    generalize halveS la i = HS at *
    generalize cornN la = cN at *
    generalize cRow la la.length = cR at *
    obtain ⟨M1, M2⟩ := PM
    obtain ⟨U1, U2⟩ := PH
    obtain ⟨S1, S2⟩ := WS
    obtain ⟨⟨V1, V2⟩, V3⟩ := HS
    obtain ⟨L3a, L3b⟩ := L3
    dsimp only at *
    go_enter Try.func5, Try.ntmps5
    go_upto_region 5 with (first
      | (go_at_call 19; refine (C1.out _ (HA.out.step (by repeat' (first | exact Below.refl _ _ | assumption | apply bDrewN | apply bDrew | apply bAlloc | (refine bSet ?_ ?_ _) | (refine bStep ?_ (by assumption)) | omega | (simp <;> omega))))).mono ?_; rintro e w1 ⟨rfl, hb1⟩)
      | (go_at_call 20; refine (C2.out _ (HA.out.step (by repeat' (first | exact Below.refl _ _ | assumption | apply bDrewN | apply bDrew | apply bAlloc | (refine bSet ?_ ?_ _) | (refine bStep ?_ (by assumption)) | omega | (simp <;> omega))))).mono ?_; rintro e w2 ⟨rfl, hb2⟩)
      | (go_at_call 21; refine (D1.out _ (HA.out.step (by repeat' (first | exact Below.refl _ _ | assumption | apply bDrewN | apply bDrew | apply bAlloc | (refine bSet ?_ ?_ _) | (refine bStep ?_ (by assumption)) | omega | (simp <;> omega)))) (HP.out.step (by repeat' (first | exact Below.refl _ _ | assumption | apply bDrewN | apply bDrew | apply bAlloc | (refine bSet ?_ ?_ _) | (refine bStep ?_ (by assumption)) | omega | (simp <;> omega))))).mono ?_; rintro e w3 ⟨rfl, hb3⟩)
      | (go_at_call 22; refine (D2.out _ (HA.out.step (by repeat' (first | exact Below.refl _ _ | assumption | apply bDrewN | apply bDrew | apply bAlloc | (refine bSet ?_ ?_ _) | (refine bStep ?_ (by assumption)) | omega | (simp <;> omega)))) (HP.out.step (by repeat' (first | exact Below.refl _ _ | assumption | apply bDrewN | apply bDrew | apply bAlloc | (refine bSet ?_ ?_ _) | (refine bStep ?_ (by assumption)) | omega | (simp <;> omega))))).mono ?_; rintro e w4 ⟨rfl, hb4⟩)
      | (go_at_call 23; refine (E1.out _ (HA.out.step (by repeat' (first | exact Below.refl _ _ | assumption | apply bDrewN | apply bDrew | apply bAlloc | (refine bSet ?_ ?_ _) | (refine bStep ?_ (by assumption)) | omega | (simp <;> omega)))) (HB.out.step (by repeat' (first | exact Below.refl _ _ | assumption | apply bDrewN | apply bDrew | apply bAlloc | (refine bSet ?_ ?_ _) | (refine bStep ?_ (by assumption)) | omega | (simp <;> omega))))).mono ?_; rintro e w5 ⟨rfl, hb5⟩)
      | (go_at_call 24; refine (E2.out _ (HA.out.step (by repeat' (first | exact Below.refl _ _ | assumption | apply bDrewN | apply bDrew | apply bAlloc | (refine bSet ?_ ?_ _) | (refine bStep ?_ (by assumption)) | omega | (simp <;> omega)))) (HB.out.step (by repeat' (first | exact Below.refl _ _ | assumption | apply bDrewN | apply bDrew | apply bAlloc | (refine bSet ?_ ?_ _) | (refine bStep ?_ (by assumption)) | omega | (simp <;> omega))))).mono ?_; rintro e w6 ⟨rfl, hb6⟩))
    have k6 : Below w.heap.size w w6 := (by repeat' (first | exact Below.refl _ _ | assumption | apply bDrewN | apply bDrew | apply bAlloc | (refine bSet ?_ ?_ _) | (refine bStep ?_ (by assumption)) | omega | (simp <;> omega)))
    clear hb1 hb2 hb3 hb4 hb5 hb6 C1 C2 D1 D2 E1 E2 HP
    go_upto_region 9 with (first
      | (go_at_call 25; refine (F1.out _ (HA.out.step (by repeat' (first | exact Below.refl _ _ | assumption | apply bDrewN | apply bDrew | apply bAlloc | (refine bSet ?_ ?_ _) | (refine bStep ?_ (by assumption)) | omega | (simp <;> omega)))) (HB.out.step (by repeat' (first | exact Below.refl _ _ | assumption | apply bDrewN | apply bDrew | apply bAlloc | (refine bSet ?_ ?_ _) | (refine bStep ?_ (by assumption)) | omega | (simp <;> omega))))).mono ?_; rintro e w7 ⟨x1, rfl, hx1, hb7⟩)
      | (go_at_call 26; refine (F2.out _ (HA.out.step (by repeat' (first | exact Below.refl _ _ | assumption | apply bDrewN | apply bDrew | apply bAlloc | (refine bSet ?_ ?_ _) | (refine bStep ?_ (by assumption)) | omega | (simp <;> omega)))) (HB.out.step (by repeat' (first | exact Below.refl _ _ | assumption | apply bDrewN | apply bDrew | apply bAlloc | (refine bSet ?_ ?_ _) | (refine bStep ?_ (by assumption)) | omega | (simp <;> omega))))).mono ?_; rintro e w8 ⟨y1, rfl, hy1, hb8⟩)
      | (go_at_call 27; refine (SameBox_eq _ _ M1 _ (by omega) (hx1.step (by repeat' (first | exact Below.refl _ _ | assumption | apply bDrewN | apply bDrew | apply bAlloc | (refine bSet ?_ ?_ _) | (refine bStep ?_ (by assumption)) | omega | (simp <;> omega)))) (hy1.step (by repeat' (first | exact Below.refl _ _ | assumption | apply bDrewN | apply bDrew | apply bAlloc | (refine bSet ?_ ?_ _) | (refine bStep ?_ (by assumption)) | omega | (simp <;> omega))))).mono ?_; rintro e w9 ⟨rfl, hb9⟩))
    have k9 : Below w.heap.size w w9 := (by repeat' (first | exact Below.refl _ _ | assumption | apply bDrewN | apply bDrew | apply bAlloc | (refine bSet ?_ ?_ _) | (refine bStep ?_ (by assumption)) | omega | (simp <;> omega)))
    clear k6 hb7 hb8 hb9 F1 F2 hx1 hy1
    go_upto_region 13 with (first
      | (go_at_call 28; refine (G1.out _ (HA.out.step (by repeat' (first | exact Below.refl _ _ | assumption | apply bDrewN | apply bDrew | apply bAlloc | (refine bSet ?_ ?_ _) | (refine bStep ?_ (by assumption)) | omega | (simp <;> omega)))) (HB.out.step (by repeat' (first | exact Below.refl _ _ | assumption | apply bDrewN | apply bDrew | apply bAlloc | (refine bSet ?_ ?_ _) | (refine bStep ?_ (by assumption)) | omega | (simp <;> omega))))).mono ?_; rintro e w7 ⟨x1, rfl, hx1, hb7⟩)
      | (go_at_call 29; refine (G2.out _ (HA.out.step (by repeat' (first | exact Below.refl _ _ | assumption | apply bDrewN | apply bDrew | apply bAlloc | (refine bSet ?_ ?_ _) | (refine bStep ?_ (by assumption)) | omega | (simp <;> omega)))) (HB.out.step (by repeat' (first | exact Below.refl _ _ | assumption | apply bDrewN | apply bDrew | apply bAlloc | (refine bSet ?_ ?_ _) | (refine bStep ?_ (by assumption)) | omega | (simp <;> omega))))).mono ?_; rintro e w8 ⟨y1, rfl, hy1, hb8⟩)
      | (go_at_call 27; refine (SameBox_eq _ _ U1 _ (by omega) (hx1.step (by repeat' (first | exact Below.refl _ _ | assumption | apply bDrewN | apply bDrew | apply bAlloc | (refine bSet ?_ ?_ _) | (refine bStep ?_ (by assumption)) | omega | (simp <;> omega)))) (hy1.step (by repeat' (first | exact Below.refl _ _ | assumption | apply bDrewN | apply bDrew | apply bAlloc | (refine bSet ?_ ?_ _) | (refine bStep ?_ (by assumption)) | omega | (simp <;> omega))))).mono ?_; rintro e w9 ⟨rfl, hb9⟩))
    have kA : Below w.heap.size w w9 := (by repeat' (first | exact Below.refl _ _ | assumption | apply bDrewN | apply bDrew | apply bAlloc | (refine bSet ?_ ?_ _) | (refine bStep ?_ (by assumption)) | omega | (simp <;> omega)))
    clear k9 hb7 hb8 hb9 G1 G2 hx1 hy1
    go_upto_region 17 with (first
      | (go_at_call 30; refine (W1.out _ (HA.out.step (by repeat' (first | exact Below.refl _ _ | assumption | apply bDrewN | apply bDrew | apply bAlloc | (refine bSet ?_ ?_ _) | (refine bStep ?_ (by assumption)) | omega | (simp <;> omega))))).mono ?_; rintro e wA ⟨rfl, hbA⟩)
      | (go_at_call 31; refine (W2.out _ (HA.out.step (by repeat' (first | exact Below.refl _ _ | assumption | apply bDrewN | apply bDrew | apply bAlloc | (refine bSet ?_ ?_ _) | (refine bStep ?_ (by assumption)) | omega | (simp <;> omega))))).mono ?_; rintro e wB ⟨rfl, hbB⟩))
    have kB : Below w.heap.size w wB := (by repeat' (first | exact Below.refl _ _ | assumption | apply bDrewN | apply bDrew | apply bAlloc | (refine bSet ?_ ?_ _) | (refine bStep ?_ (by assumption)) | omega | (simp <;> omega)))
    clear kA hbA hbB W1 W2
    go_upto_region 21 with (first
      | (go_at_call 32; refine (J1.out _ (HA.out.step (by repeat' (first | exact Below.refl _ _ | assumption | apply bDrewN | apply bDrew | apply bAlloc | (refine bSet ?_ ?_ _) | (refine bStep ?_ (by assumption)) | omega | (simp <;> omega))))).mono ?_; rintro e wC ⟨x1, z1, rfl, hx1, hz1, hbC⟩)
      | (go_at_call 33; refine (J2.out _ (HA.out.step (by repeat' (first | exact Below.refl _ _ | assumption | apply bDrewN | apply bDrew | apply bAlloc | (refine bSet ?_ ?_ _) | (refine bStep ?_ (by assumption)) | omega | (simp <;> omega))))).mono ?_; rintro e wD ⟨y1, t1, rfl, hy1, ht1, hbD⟩)
      | (go_at_call 27; with_reducible refine (SameBox_eq x1 y1 V1 _ (by omega) (hx1.step (by repeat' (first | exact Below.refl _ _ | assumption | apply bDrewN | apply bDrew | apply bAlloc | (refine bSet ?_ ?_ _) | (refine bStep ?_ (by assumption)) | omega | (simp <;> omega)))) (hy1.step (by repeat' (first | exact Below.refl _ _ | assumption | apply bDrewN | apply bDrew | apply bAlloc | (refine bSet ?_ ?_ _) | (refine bStep ?_ (by assumption)) | omega | (simp <;> omega))))).mono ?_; rintro e wE ⟨rfl, hbE⟩)
      | (go_at_call 27; with_reducible refine (SameBox_eq z1 t1 V2 _ (by omega) (hz1.step (by repeat' (first | exact Below.refl _ _ | assumption | apply bDrewN | apply bDrew | apply bAlloc | (refine bSet ?_ ?_ _) | (refine bStep ?_ (by assumption)) | omega | (simp <;> omega)))) (ht1.step (by repeat' (first | exact Below.refl _ _ | assumption | apply bDrewN | apply bDrew | apply bAlloc | (refine bSet ?_ ?_ _) | (refine bStep ?_ (by assumption)) | omega | (simp <;> omega))))).mono ?_; rintro e wF ⟨rfl, hbF⟩))
    have kF : Below w.heap.size w wF := (by repeat' (first | exact Below.refl _ _ | assumption | apply bDrewN | apply bDrew | apply bAlloc | (refine bSet ?_ ?_ _) | (refine bStep ?_ (by assumption)) | omega | (simp <;> omega)))
    clear kB hbC hbD hbE hbF J1 J2 hx1 hy1 hz1 ht1
    go_wp2_with (first
      | (go_at_call 34; refine (K1.out _ (HA.out.step (by repeat' (first | exact Below.refl _ _ | assumption | apply bDrewN | apply bDrew | apply bAlloc | (refine bSet ?_ ?_ _) | (refine bStep ?_ (by assumption)) | omega | (simp <;> omega))))).mono ?_; rintro e wG ⟨xt, rfl, hxt, hbG⟩)
      | (go_at_call 35; refine (K2.out _ (HA.out.step (by repeat' (first | exact Below.refl _ _ | assumption | apply bDrewN | apply bDrew | apply bAlloc | (refine bSet ?_ ?_ _) | (refine bStep ?_ (by assumption)) | omega | (simp <;> omega))))).mono ?_; rintro e wH ⟨yt, rfl, hyt, hbH⟩)
      | (go_at_call 36; refine (points_eq _ _ cN cR _ (by omega) L5.out (by obtain ⟨_, _, e1, q1⟩ := hxt; exact ⟨_, _, e1, q1.step (by repeat' (first | exact Below.refl _ _ | assumption | apply bDrewN | apply bDrew | apply bAlloc | (refine bSet ?_ ?_ _) | (refine bStep ?_ (by assumption)) | omega | (simp <;> omega)))⟩) (by obtain ⟨_, _, e1, q1⟩ := hyt; exact ⟨_, _, e1, q1.step (by repeat' (first | exact Below.refl _ _ | assumption | apply bDrewN | apply bDrew | apply bAlloc | (refine bSet ?_ ?_ _) | (refine bStep ?_ (by assumption)) | omega | (simp <;> omega)))⟩)).mono ?_; rintro e wI ⟨rfl, hbI⟩)
      | (go_at_call 6; refine (works_any _).mono ?_; rintro e wJ ⟨rfl, hbJ⟩))
    go_ret
    exact ⟨rfl, (by repeat' (first | exact Below.refl _ _ | assumption | apply bDrewN | apply bDrew | apply bAlloc | (refine bSet ?_ ?_ _) | (refine bStep ?_ (by assumption)) | omega | (simp <;> omega)))⟩
  · obtain ⟨pa, ca, rfl, -⟩ := hA
    obtain ⟨pb, cb, rfl, -⟩ := hB
    obtain ⟨pp, cp, rfl, -⟩ := hP
    have h4 : 50 < (la.length : Int) ∨ ((la.length : Int) ≤ 50 ∧ 50 < (lb.length : Int)) ∨ ((la.length : Int) ≤ 50 ∧ (lb.length : Int) ≤ 50 ∧ 50 < (ps.length : Int)) := by omega
    clear hlen
    rcases h4 with h4 | ⟨h4, h5⟩ | ⟨h4, h5, h6⟩
    all_goals
      go_enter Try.func5, Try.ntmps5
      go_wp2_with (go_at_call 6; refine (works_any _).mono ?_; rintro e w9 ⟨rfl, hb9⟩)
      go_ret
      exact ⟨rfl, (by repeat' (first | exact Below.refl _ _ | assumption | apply bDrewN | apply bDrew | apply bAlloc | (refine bSet ?_ ?_ _) | (refine bStep ?_ (by assumption)) | omega | (simp <;> omega)))⟩
end Go.Proofs.Ytkldlmbccdfjdaa
