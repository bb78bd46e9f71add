/-
  The rule of a plant's move.
-/
import Derived.Test.YtgiinciclnekjaaG27Welds
import Derived.Test.YtgiinciclnekjaaG28Welds
import Derived.Test.YtgiinciclnekjaaG29Welds
import Derived.Test.YtgiinciclnekjaaG30Welds
import Derived.Test.YtgiinciclnekjaaG31Welds
import Derived.Test.YtgiinciclnekjaaG32Welds
import Derived.Test.YtgiinciclnekjaaG26Welds
set_option linter.unusedSimpArgs false
set_option linter.unusedVariables false
namespace Go.Proofs.Ytgiinciclnekjaa
open Sx Go.RowKit
set_option maxRecDepth 100000
theorem mv_all {l a : Nat} (hl : l ≤ 7) (ha : a ≤ l) (b d : Nat → Bool) (u : Nat → Value) : mvO (mvT b d l a u) = some ((mvF b d l a false (unk u)).map Cv.strip) := by
  match l, a, hl, ha with
  | 0, 0, _, _ => exact mv_0_0 b d u
  | 1, 0, _, _ => exact mv_1_0 b d u
  | 1, 1, _, _ => exact mv_1_1 b d u
  | 2, 0, _, _ => exact mv_2_0 b d u
  | 2, 1, _, _ => exact mv_2_1 b d u
  | 2, 2, _, _ => exact mv_2_2 b d u
  | 3, 0, _, _ => exact mv_3_0 b d u
  | 3, 1, _, _ => exact mv_3_1 b d u
  | 3, 2, _, _ => exact mv_3_2 b d u
  | 3, 3, _, _ => exact mv_3_3 b d u
  | 4, 0, _, _ => exact mv_4_0 b d u
  | 4, 1, _, _ => exact mv_4_1 b d u
  | 4, 2, _, _ => exact mv_4_2 b d u
  | 4, 3, _, _ => exact mv_4_3 b d u
  | 4, 4, _, _ => exact mv_4_4 b d u
  | 5, 0, _, _ => exact mv_5_0 b d u
  | 5, 1, _, _ => exact mv_5_1 b d u
  | 5, 2, _, _ => exact mv_5_2 b d u
  | 5, 3, _, _ => exact mv_5_3 b d u
  | 5, 4, _, _ => exact mv_5_4 b d u
  | 5, 5, _, _ => exact mv_5_5 b d u
  | 6, 0, _, _ => exact mv_6_0 b d u
  | 6, 1, _, _ => exact mv_6_1 b d u
  | 6, 2, _, _ => exact mv_6_2 b d u
  | 6, 3, _, _ => exact mv_6_3 b d u
  | 6, 4, _, _ => exact mv_6_4 b d u
  | 6, 5, _, _ => exact mv_6_5 b d u
  | 6, 6, _, _ => exact mv_6_6 b d u
  | 7, 0, _, _ => exact mv_7_0 b d u
  | 7, 1, _, _ => exact mv_7_1 b d u
  | 7, 2, _, _ => exact mv_7_2 b d u
  | 7, 3, _, _ => exact mv_7_3 b d u
  | 7, 4, _, _ => exact mv_7_4 b d u
  | 7, 5, _, _ => exact mv_7_5 b d u
  | 7, 6, _, _ => exact mv_7_6 b d u
  | 7, 7, _, _ => exact mv_7_7 b d u
/-- A plant's cells, read off. -/
def lsQ : List Lf := List.replicate 65 .b ++ [.i .i64, .i .i64] ++ List.replicate 15 .b
def okPl (cs : List Cv) : Bool := match cs with
  | .b true true :: _ => isL lsQ (cs.take 82) && Nat.beq cs.length 88
  | _ => false
def winB (j : Nat) : Bool := (Nat.ble 1 j && Nat.ble j 65) || (Nat.ble 73 j && Nat.ble j 75)
/-- The cells behind a move: those that are written; the others as they are. -/
def mvN (cs : List Cv) (d : Nat → Bool) : List Cv := (List.range 88).map fun j => bif winB j then (bif Nat.beq j 65 then .i .i64 (atN (nOf (cs.take 82) 66) (nOf (cs.take 82) 65)) false else .b (mvB (bOf (cs.take 82)) d (nOf (cs.take 82) 66) (nOf (cs.take 82) 65) j) false) else (cs[j]?).getD (.b false true)
def putV (σ : St) (id : Nat) (cs : List Cv) : St := { σ with bk := amod (Blk.putL cs) σ.bk id, lg := (cellWrs id 73 ((cs.drop 73).take 3)).reverse ++ ((cellWrs id 1 ((cs.drop 1).take 65)).reverse ++ σ.lg) }
/-- The rule. -/
noncomputable def mvR : List Sv → St → Tree FLeaf
  | [.one (.ptr id (.lit 0)), .agg ac], σ => match alook σ.bk id with
    | some (.ar t false cs none) => match Nat.beq t 107 && (isL ls4 ac && okPl cs) with
      | true => .must (decide (0 ≤ nOf (cs.take 82) 66 ∧ nOf (cs.take 82) 66 ≤ 7 ∧ 0 ≤ nOf (cs.take 82) 65 ∧ nOf (cs.take 82) 65 ≤ nOf (cs.take 82) 66)) (.leaf (.one (.i .i64 0 true), putV σ id (mvN cs (bOf ac))))
      | false => .fail
    | _ => .fail
  | _, _ => .fail
theorem strip_at {A B : List Cv} (h : A.map Cv.strip = B.map Cv.strip) (e : Env) (j : Nat) : (A[j]?).map (Cv.den e) = (B[j]?).map (Cv.den e) := by
  have key : ∀ X : List Cv, (X[j]?).map (Cv.den e) = ((X.map Cv.strip)[j]?).map (Cv.den e) := fun X => by
    rw [List.getElem?_map, Option.map_map]
    congr 1
    funext c
    exact (Cv.strip_den c e).symm
  rw [key A, key B, h]
theorem plH_sym {b : Nat → Bool} (n : Nat → Int) (h : b 0 = true) (fl : Bool) : (symL b n 0 lsQ).map Cv.strip = (plH b (n 66) (n 65) fl).map Cv.strip := by
  have e1 : symL b n 0 lsQ = .b (b 0) false :: symL b n 1 lsQ.tail := rfl
  rw [e1, h]
  cases fl <;> rfl
theorem same_app {h h' us us' : List Cv} {e e' : Env} (hl : h.length = h'.length) (h1 : ∀ j : Nat, (h[j]?).map (Cv.den e) = (h'[j]?).map (Cv.den e')) (h2 : ∀ j : Nat, (us[j]?).map (Cv.den e) = (us'[j]?).map (Cv.den e')) (j : Nat) : ((h ++ us)[j]?).map (Cv.den e) = ((h' ++ us')[j]?).map (Cv.den e') := by
  by_cases c : j < h.length
  · rw [List.getElem?_append_left c, List.getElem?_append_left (by omega)]
    exact h1 j
  · rw [List.getElem?_append_right (by omega), List.getElem?_append_right (by omega), hl]
    exact h2 _
theorem six_cells {D : List Cv} (h : D.length = 6) (e : Env) (j : Nat) : (D[j]?).map (Cv.den e) = ((unk fun k => ((D[k]?).map (Cv.den e)).getD undef)[j]?).map (Cv.den env0) := by
  match D, h with
  | [x0, x1, x2, x3, x4, x5], _ =>
    match j with
    | 0 => rfl
    | 1 => rfl
    | 2 => rfl
    | 3 => rfl
    | 4 => rfl
    | 5 => rfl
    | j + 6 => rfl
theorem free_same {X : List Cv} (h : X.all Cv.freeB = true) (e e' : Env) (j : Nat) : (X[j]?).map (Cv.den e) = (X[j]?).map (Cv.den e') := by
  cases hx : X[j]? with
  | none => rfl
  | some c =>
    have := Cv.den_agree (s := fun _ => none) (e := e') (e' := e) ⟨fun _ h => (by cases h), fun _ h => (by cases h)⟩ (Cv.free_sc (List.all_eq_true.1 h c (List.mem_of_getElem? hx)) _)
    simp only [Option.map_some]
    rw [this]
theorem unk_free (u : Nat → Value) : (unk u).all Cv.freeB = true := rfl
theorem mvT_eq (b d : Nat → Bool) (l a : Int) (u : Nat → Value) : mvT b d l a u = evFn tbl wr5 (fun _ => none) 300 12 36 [.one (.ptr 1 (.lit 0)), .agg (symL d (fun _ => 0) 0 ls4)] (st1 107 (plC b l a true (unk u))) := by
  unfold mvT; rfl
theorem evFn_hid0 {T : Tree FLeaf} {f : FuncId} {args : List Sv} {σ : St} {y : FLeaf} (hT : T = evFn tbl wr5 (fun _ => none) 300 12 f args σ) (hy : AtH T y) : FunOk Try.prog f args σ y.1 y.2 := by
  subst hT
  exact evFn_at tbl_ok tbl_any spNone hy.out
theorem mvO_at {T : Tree FLeaf} {X : List Cv} (h : mvO T = some X) : ∃ (σ : St) (cs : List Cv), AtH T (.one (.i .i64 0 true), σ) ∧ alook σ.bk 1 = some (.ar 107 false cs none) ∧ cs.all Cv.freeB = true ∧ cs.map Cv.strip = X := by
  unfold mvO at h
  split at h
  · rename_i σ hp
    split at h
    · rename_i t cs hb
      split at h
      · rename_i hc
        rw [Bool.and_eq_true] at hc
        obtain ⟨h1, h2⟩ := hc
        obtain rfl := beq_iff'.1 h1
        exact ⟨σ, cs, ⟨peelF_at hp (fun b hb => by cases hb)⟩, hb, h2, Option.some.inj h⟩
      · cases h
    · cases h
  · cases h
def outL : List Nat := (List.range 88).filter fun j => !winB j
theorem out_same (b d : Nat → Bool) (l a x : Int) (fl : Bool) (u : Nat → Value) : outL.map (fun j => ((plC (mvB b d l a) l x false (unk u))[j]?).map Cv.strip) = outL.map (fun j => ((plC b l a fl (unk u))[j]?).map Cv.strip) := by
  cases fl <;> rfl
def winL : List Nat := (List.range 88).filter winB
theorem win_same (b d : Nat → Bool) (l a x : Int) (u : Nat → Value) : winL.map (fun j => (plC (mvB b d l a) l x false (unk u))[j]?) = winL.map (fun j => some (bif Nat.beq j 65 then Cv.i .i64 x false else .b (mvB b d l a j) false)) := by rfl
theorem strip_one {x y : Option Cv} (h : x.map Cv.strip = y.map Cv.strip) (e : Env) : x.map (Cv.den e) = y.map (Cv.den e) := by
  have key : ∀ z : Option Cv, z.map (Cv.den e) = (z.map Cv.strip).map (Cv.den e) := fun z => by
    rw [Option.map_map]
    congr 1
    funext c
    exact (Cv.strip_den c e).symm
  rw [key x, key y, h]
theorem mvN_at {cs : List Cv} {d : Nat → Bool} {j : Nat} (hj : j < 88) : (mvN cs d)[j]? = some (bif winB j then (bif Nat.beq j 65 then .i .i64 (atN (nOf (cs.take 82) 66) (nOf (cs.take 82) 65)) false else .b (mvB (bOf (cs.take 82)) d (nOf (cs.take 82) 66) (nOf (cs.take 82) 65) j) false) else (cs[j]?).getD (.b false true)) := by
  unfold mvN
  rw [List.getElem?_map, List.getElem?_range hj]; rfl
theorem mvN_len (cs : List Cv) (d : Nat → Bool) : (mvN cs d).length = 88 := by unfold mvN; rw [List.length_map, List.length_range]
theorem mem_wrs {id : Nat} : ∀ {cs : List Cv} {o off : Nat} , o ≤ off → off < o + cs.length → ∃ v, Wr.cell id off v ∈ cellWrs id o cs
  | [], o, off, h1, h2 => by simp at h2; omega
  | c :: cs, o, off, h1, h2 => by
    rcases Nat.eq_or_lt_of_le h1 with h | h
    · subst h; exact ⟨c, List.mem_cons_self⟩
    · obtain ⟨v, hv⟩ := mem_wrs (id := id) (cs := cs) (o := o + 1) (off := off) h (by simp at h2; omega)
      exact ⟨v, List.mem_cons_of_mem _ hv⟩
theorem putV_ok {f : FuncId} {args : List Sv} {σ : St} {v : Sv} {id : Nat} {t : TypeId} {cs : List Cv} {d : Nat → Bool} (hb : alook σ.bk id = some (.ar t false cs none)) (hlen : cs.length = 88) (h : FunOk Try.prog f args σ v (putC σ id (mvN cs d))) : FunOk Try.prog f args σ v (putV σ id (mvN cs d)) := by
  have hl : Sx.look (putV σ id (mvN cs d)) = Sx.look (putC σ id (mvN cs d)) := by funext l; cases l <;> rfl
  refine ⟨fun C e w hp ha => ?_, fun i off _ hu => ?_⟩
  · rw [hl]; exact h.run C e w hp ha
  · by_cases hi : i = id
    · subst hi
      have hw : winB off = false := by
        cases hw : winB off with
        | false => rfl
        | true =>
          exfalso
          have hbad : ∀ v, Wr.cell i off v ∈ (putV σ i (mvN cs d)).lg → False := fun v hv => by
            have := List.all_eq_true.1 hu _ hv
            simp at this
          unfold winB at hw
          simp only [Bool.or_eq_true, Bool.and_eq_true, Nat.ble_eq] at hw
          rcases hw with ⟨w1, w2⟩ | ⟨w1, w2⟩
          · obtain ⟨v, hv⟩ := mem_wrs (id := i) (cs := ((mvN cs d).drop 1).take 65) (o := 1) (off := off) w1 (by rw [List.length_take, List.length_drop, mvN_len]; omega)
            exact hbad v (List.mem_append_right _ (List.mem_append_left _ (List.mem_reverse.2 hv)))
          · obtain ⟨v, hv⟩ := mem_wrs (id := i) (cs := ((mvN cs d).drop 73).take 3) (o := 73) (off := off) w1 (by rw [List.length_take, List.length_drop, mvN_len]; omega)
            exact hbad v (List.mem_append_left _ (List.mem_reverse.2 hv))
      simp only [Sx.look, putV, alook_amod, if_true, hb, Option.map_some, Option.bind_some, Blk.putL, Blk.cell]
      rcases Nat.lt_or_ge off 88 with h8 | h8
      · rw [mvN_at h8, hw, List.getElem?_eq_getElem (by omega)]; rfl
      · rw [List.getElem?_eq_none (by rw [mvN_len]; exact h8), List.getElem?_eq_none (by omega)]
    · simp only [Sx.look, putV, alook_amod, if_neg hi]
set_option maxHeartbeats 1000000 in
theorem mvR_ok {args : List Sv} {σ : St} {y : FLeaf} (hy : (mvR args σ).At y) : FunOk Try.prog 36 args σ y.1 y.2 := by
  unfold mvR at hy
  split at hy
  · rename_i σ id ac
    split at hy
    · rename_i t cs hb
      split at hy
      · rename_i hL
        simp only [Bool.and_eq_true] at hL
        obtain ⟨h1, h2, h3⟩ := hL
        obtain rfl := beq_iff'.1 h1
        obtain ⟨hq, hy2⟩ := hy
        obtain rfl : _ = y := hy2
        have hq' := of_decide_eq_true hq
        obtain ⟨q1, q2, q3, q4⟩ := hq'
        have hH : isL lsQ (cs.take 82) = true ∧ cs.length = 88 ∧ bOf (cs.take 82) 0 = true := by
          unfold okPl at h3
          split at h3
          · rw [Bool.and_eq_true] at h3
            exact ⟨h3.1, beq_iff'.1 h3.2, rfl⟩
          · cases h3
        obtain ⟨hLq, hlen, hb0⟩ := hH
        refine putV_ok hb hlen ?_
        obtain ⟨H, hHd⟩ : ∃ H, H = cs.take 82 := ⟨_, rfl⟩
        obtain ⟨D, hDd⟩ : ∃ D, D = cs.drop 82 := ⟨_, rfl⟩
        have hcs : cs = H ++ D := by rw [hHd, hDd, List.take_append_drop]
        have hHl : H.length = 82 := by rw [hHd, List.length_take]; omega
        have hDl : D.length = 6 := by rw [hDd, List.length_drop]; omega
        have hat : ∀ j, j < 88 → (mvN cs (bOf ac))[j]? = some (bif winB j then (bif Nat.beq j 65 then .i .i64 (atN (nOf H 66) (nOf H 65)) false else .b (mvB (bOf H) (bOf ac) (nOf H 66) (nOf H 65) j) false) else (cs[j]?).getD (.b false true)) := fun j hj => by rw [mvN_at hj, ← hHd]
        rw [← hHd] at hLq hb0 q1 q2 q3 q4
        obtain ⟨l, hl⟩ := Int.eq_ofNat_of_zero_le q1
        obtain ⟨a, ha⟩ := Int.eq_ofNat_of_zero_le q3
        rw [hl] at q2 q4
        rw [ha] at q4
        rw [hl, ha] at hat
        refine FunOk.renU (args0 := [.one (.ptr 1 (.lit 0)), .agg (symL (bOf ac) (fun _ => 0) 0 ls4)]) (fun e => ?_) hb (by rw [mvN_len, hlen]) ?_ (fun e => ?_) ?_ rfl
        · obtain ⟨σ', cs', g1, g2, g3, g4⟩ := mvO_at (mv_all (l := l) (a := a) (by omega) (by omega) (bOf H) (bOf ac) fun k => ((D[k]?).map (Cv.den e)).getD undef)
          have s1 : ∀ j : Nat, (cs[j]?).map (Cv.den e) = ((plC (bOf H) l a true (unk fun k => ((D[k]?).map (Cv.den e)).getD undef))[j]?).map (Cv.den env0) := by
            intro j
            rw [hcs, plC_app]
            refine same_app (by rw [hHl, plH_len]) (fun j => ?_) (fun j => six_cells hDl e j) j
            rw [isL_den (c0 := H) hLq (fun i => by rw [Nat.zero_add]) e env0 j]
            have := strip_at (plH_sym (nOf H) hb0 true) env0 j
            rw [this, hl, ha]
          refine ⟨_, σ', cs', evFn_hid0 (mvT_eq _ _ _ _ _) g1, g2, ?_, g3, s1, fun j => ?_⟩
          · rw [plC_app, List.all_append, plH_free, unk_free]; rfl
          · rw [strip_at g4 env0 j]
            unfold mvF
            rcases Nat.lt_or_ge j 88 with hj | hj
            · rw [hat j hj]
              cases hw : winB j with
              | true =>
                have := List.map_eq_map_iff.1 (win_same (bOf H) (bOf ac) l a (atN l a) fun k => ((D[k]?).map (Cv.den e)).getD undef) j (List.mem_filter.2 ⟨List.mem_range.2 hj, hw⟩)
                rw [this]
                cases Nat.beq j 65 <;> rfl
              | false =>
                have := List.map_eq_map_iff.1 (out_same (bOf H) (bOf ac) l a (atN l a) true fun k => ((D[k]?).map (Cv.den e)).getD undef) j (List.mem_filter.2 ⟨List.mem_range.2 hj, by rw [hw]; rfl⟩)
                rw [strip_one this env0, ← s1 j, List.getElem?_eq_getElem (by omega)]
                rfl
            · rw [List.getElem?_eq_none (by rw [mvN_len]; exact hj), List.getElem?_eq_none (by rw [plC_app, List.length_append, plH_len]; exact hj)]; rfl
        · intro c hc
          obtain ⟨j, hj⟩ := List.mem_iff_getElem?.1 hc
          have hj8 : j < 88 := by have := (List.getElem?_eq_some_iff.1 hj).1; rwa [mvN_len] at this
          rw [hat j hj8] at hj
          obtain rfl := Option.some.inj hj
          cases hw : winB j with
          | true => left; cases Nat.beq j 65 <;> rfl
          | false =>
            right
            rw [List.getElem?_eq_getElem (by omega)]
            exact List.getElem_mem _
        · have e1 := canon_den h2 e (e.ren fun _ => id)
          show [_, (Sv.agg ac).den e] = [_, (Sv.agg (symL (bOf ac) (fun _ => 0) 0 ls4)).den (e.ren fun _ => id)]
          rw [e1]; rfl
        · intro x hx cs0
          simp only [List.mem_cons, List.not_mem_nil, or_false] at hx
          rcases hx with rfl | rfl
          · exact ⟨rfl, trivial⟩
          · exact Sv.free_sc (show (Sv.agg _).freeB = true from symL_free _ _ _ _) _
      · exact hy.elim
    · exact hy.elim
  · exact hy.elim
end Go.Proofs.Ytgiinciclnekjaa

/-
  The law ProtectDead: what a round comes to.
-/
set_option linter.unusedSimpArgs false
set_option linter.unusedVariables false
namespace Go.Proofs.Ytgiinciclnekjaa
open Sx Go.RowKit
set_option maxRecDepth 100000
def gsL (n : Nat → Int) : List Cv := symL (fun _ => false) n 0 lsG
def csL (v : FVal) : List Cv := symL v.b v.i 2 lsM
def sgL (f : Nat → Value) (i : Int) : List Cv := (List.range 31).map fun j => (lfAt lsS j).of (f (0 + i.toNat * 31 + j))
noncomputable def rI (n : Nat → Int) (v : FVal) (f : Nat → Value) (j : Nat) : Int := nwI j (v.i 1) (nOf (gsL n)) (bOf (csL v)) (nOf (csL v)) (bOf (sgL f (v.i 0))) (nOf (sgL f (v.i 0)))
noncomputable def rB (n : Nat → Int) (v : FVal) (f : Nat → Value) (j : Nat) : Bool := nwB j (v.i 1) (nOf (gsL n)) (bOf (csL v)) (nOf (csL v)) (bOf (sgL f (v.i 0))) (nOf (sgL f (v.i 0)))
noncomputable def rA (n : Nat → Int) (v : FVal) (f : Nat → Value) (j : Nat) : Bool := acB j (v.i 1) (nOf (gsL n)) (bOf (csL v)) (nOf (csL v)) (bOf (sgL f (v.i 0))) (nOf (sgL f (v.i 0)))
def drvC (X : Int) (a b c : Bool) : Bool := bif X != 1 then (bif X != 2 then !(a == false && (b == false && c == false)) else false) else false
def deadC (p X : Int) (a b c : Bool) : Bool := bif p == 5 then (bif X != 5 then true else drvC X a b c) else drvC X a b c
def lgB (len : Nat) (i : Int) : Bool := bif decide (i < (len : Int)) then decide (i < 100) else false
/-- What is demanded of a round that goes on. -/
noncomputable def goL (n : Nat → Int) (len : Nat) (f : Nat → Value) (v : FVal) : List Bool := [lgB len (v.i 0), decide (0 ≤ v.i 0 ∧ v.i 0 < (len : Int)), decide (0 + (v.i 0).toNat * 31 + 31 ≤ len * 31), (List.range 31).all fun j => (lfAt lsS j).isV (f (0 + (v.i 0).toNat * 31 + j)), decide (0 ≤ v.i 1 ∧ v.i 1 < 6),
  !deadC (v.i 1) (rI n v f 0) (rA n v f 0) (rA n v f 1) (rA n v f 2), !(bif v.b 3 then !rB n v f 2 else false), !(bif v.b 4 then !rB n v f 3 else false), !(bif v.b 5 then !rB n v f 4 else false)]
theorem dd_go (n : Nat → Int) (len cap : Nat) (f : Nat → Value) (v : FVal) : (wayR ddD (ddS n len cap f).st (ddI n len cap f v) .normal (ddR n len cap f v) [true, false, false, false, false]).map (fun r => (r.1, rvI ddD r.2 0, rvI ddD r.2 1)) = some (goL n len f v, IntKind.i64.wrap (v.i 0 + 1), rI n v f 0) := by kernel_rfl
theorem dd_out (n : Nat → Int) (len cap : Nat) (f : Nat → Value) (v : FVal) : (wayR ddD (ddS n len cap f).st (ddI n len cap f v) (.exit 0) (ddR n len cap f v) [false]).map (fun r => r.1) = some [!lgB len (v.i 0)] := by kernel_rfl
end Go.Proofs.Ytgiinciclnekjaa

/-
  The law ProtectDead: ahead of the loop, and behind it.
-/
set_option linter.unusedSimpArgs false
set_option linter.unusedVariables false
namespace Go.Proofs.Ytgiinciclnekjaa
open Sx Go.RowKit
set_option maxRecDepth 100000
/-- What is handed back, where it is a truth value. -/
noncomputable def retB (f : Nat) (x : SLeaf) : Option Bool := match x.1 with
  | .out .ret => match evRes tbl x.2 (fnOf f).results.toList with
    | some (.one (.b v _)) => some v
    | _ => none
  | _ => none
theorem retB_at {f : Nat} {x : SLeaf} (h : retB f x = some true) : (x.1 = .out .normal ∨ x.1 = .out .ret) ∧ ∃ l, evRes tbl x.2 (fnOf f).results.toList = some (.one (.b true l)) := by
  unfold retB at h
  split at h
  · rename_i ho
    split at h
    · rename_i v l hv
      obtain rfl := Option.some.inj h
      exact ⟨Or.inr ho, l, hv⟩
    · cases h
  · cases h
theorem dd_bad (n : Nat → Int) (len cap : Nat) (f : Nat → Value) : (selW [true] (ddT n len cap f)).map (fun r => (r.1, retB 3 r.2)) = some ([chkR n != 0], some (bif chkR n == 2 then true else false)) := by kernel_rfl
theorem dd_up (n : Nat → Int) (len cap : Nat) (f : Nat → Value) : (selW [false, false] (ddT n len cap f)).map (fun r => (r.1, (stpOf r.2).isSome, (ddS n len cap f).k)) = some ([!(chkR n != 0), !(chkR n != 0)], true, 0) := by kernel_rfl
theorem dd_ent (n : Nat → Int) (len cap : Nat) (f : Nat → Value) : (okF ddD (ddS n len cap f).st (ddS n len cap f).st, rvI ddD (ddS n len cap f).st 0, rvI ddD (ddS n len cap f).st 1) = (true, 0, 0) := by kernel_rfl
theorem dd_fam (n : Nat → Int) (len cap : Nat) (f : Nat → Value) (v : FVal) : ((ddS n len cap f).st.apps (famW v 0 ddD)).isSome = true := by kernel_rfl
noncomputable def ddX (n : Nat → Int) (len cap : Nat) (f : Nat → Value) (v : FVal) : Tree SLeaf := evS tbl wr5 caS (fnOf 3).ntmps 300 [0] 300 (ddK n len cap f) .normal (ddI n len cap f v)
theorem dd_end (n : Nat → Int) (len cap : Nat) (f : Nat → Value) (v : FVal) : (selW [] (ddX n len cap f v)).map (fun r => (r.1, retB 3 r.2)) = some ([], some true) := by kernel_rfl
end Go.Proofs.Ytgiinciclnekjaa

/-
  A machine's step, written out.
-/
set_option linter.unusedSimpArgs false
set_option linter.unusedVariables false
namespace Go.Proofs.Ytgiinciclnekjaa
open Sx Go.RowKit
section
variable (n : Nat → Int) (b : Nat → Bool) (m : Nat → Int) (h : Nat → Bool) (s : Nat → Int)
/-- Which conditions hold. -/
def nowB (i : Nat) : Bool := ((hoR n h s (fun i => b (1 + i)))[i]?).getD false
def hlN (i : Nat) : Int := bif nowB n b h s i then IntKind.i64.wrap (m (4 + i) + 1) else 0
/-- The cause behind the first conditions. -/
def cA : Nat → Int
  | 0 => m 0
  | i + 1 => bif decide (hlN n b m h s i ≥ n (11 + i)) then (bif cA i == 0 then ((i + 1 : Nat) : Int) else cA i) else cA i
def cn3 (o : Nat) : Int := bif h (o + 2) then IntKind.i64.wrap ((bif h (o + 1) then IntKind.i64.wrap ((bif h o then 1 else 0) + 1) else (bif h o then 1 else 0)) + 1) else (bif h (o + 1) then IntKind.i64.wrap ((bif h o then 1 else 0) + 1) else (bif h o then 1 else 0))
def cC : Int := bif decide (cn3 h 18 ≥ 2) then (bif cA n b m h s 7 == 0 then 8 else cA n b m h s 7) else cA n b m h s 7
/-- The cause behind the third part of a step. -/
def cW : Int := bif decide (cn3 h 21 ≥ 2) then (bif cC n b m h s == 0 then 9 else cC n b m h s) else cC n b m h s
def clB : Bool := decide ((bif true == h 24 then 0 else bif true == h 25 then 1 else bif true == h 26 then 2 else (-1 : Int)) ≥ 0)
def cuB : Bool := cuP n h s (fun i => b (1 + i))
def wcB : Bool := bif h 29 then clB h else false
def ph0 : Int := bif cW n b m h s != 0 then 4 else bif wcB h then 4 else bif h 29 then 1 else 0
def ca0 : Int := bif cW n b m h s != 0 then cW n b m h s else bif wcB h then (bif cW n b m h s == 0 then 11 else cW n b m h s) else cW n b m h s
def ti0 : Int := bif cW n b m h s != 0 then 0 else bif wcB h then 0 else bif h 29 then 0 else m 15
def t1B : Bool := bif cW n b m h s != 0 then true else !h 29
def lkB : Bool := decide (IntKind.i64.wrap (s 27 * 65536) ≥ IntKind.i64.wrap (s 28 * n 18))
def prB : Bool := decide (IntKind.i64.wrap (m 15 + 1) ≥ n 19)
def ph1 : Int := bif t1B n b m h s then 3 else bif lkB n s then 2 else bif prB n m then 3 else 1
def ca1 : Int := bif t1B n b m h s then cW n b m h s else bif lkB n s then cW n b m h s else bif prB n m then (bif cW n b m h s == 0 then 10 else cW n b m h s) else cW n b m h s
def mi1 : Int := bif t1B n b m h s then m 14 else bif lkB n s then 0 else m 14
def ti1 : Int := bif t1B n b m h s then 0 else bif lkB n s then m 15 else bif prB n m then 0 else IntKind.i64.wrap (m 15 + 1)
def mi2 : Int := bif !h 24 then IntKind.i64.wrap (m 14 + 1) else bif !h 25 then IntKind.i64.wrap (m 14 + 1) else 0
def ca2 : Int := bif decide (mi2 m h > n 20) then (bif cW n b m h s == 0 then 12 else cW n b m h s) else cW n b m h s
def t2B : Bool := bif ca2 n b m h s != 0 then true else !h 29
def ph2 : Int := bif t2B n b m h s then 3 else 2
def ti2 : Int := bif t2B n b m h s then 0 else m 15
def loB : Bool := decide (IntKind.i64.wrap (m 15 + 1) < n 20)
def ccB : Bool := bif clB h then cuB n b h s else false
def ca3 : Int := bif clB h then (bif cW n b m h s == 0 then 11 else cW n b m h s) else cW n b m h s
def ph3 : Int := bif loB n m then 3 else bif ccB n b h s then 5 else bif ca3 n b m h s != 0 then 4 else 0
def cs3 : Int := bif loB n m then cW n b m h s else bif ccB n b h s then cW n b m h s else ca3 n b m h s
def ti3 : Int := bif loB n m then IntKind.i64.wrap (m 15 + 1) else bif ccB n b h s then IntKind.i64.wrap (m 15 + 1) else bif ca3 n b m h s != 0 then 0 else 0
def ti4 : Int := bif cuB n b h s then IntKind.i64.wrap (m 15 + 1) else 0
def fiB : Bool := decide (ti4 n b m h s ≥ n 20)
def noB : Bool := nowB n b h s 0 == false && (nowB n b h s 1 == false && (nowB n b h s 2 == false && (nowB n b h s 3 == false && (nowB n b h s 4 == false && (nowB n b h s 5 == false && nowB n b h s 6 == false)))))
def rsB : Bool := bif h 30 then (bif noB n b h s then (bif !decide (cn3 h 18 ≥ 2) then (bif !decide (cn3 h 21 ≥ 2) then cW n b m h s != 11 else false) else false) else false) else false
def ph4 : Int := bif fiB n b m h s then 5 else bif rsB n b m h s then 0 else 4
def ca4 : Int := bif fiB n b m h s then cW n b m h s else bif rsB n b m h s then 0 else cW n b m h s
def tm4 : Int := bif fiB n b m h s then ti4 n b m h s else bif rsB n b m h s then 0 else ti4 n b m h s
def hl4 (i : Nat) : Int := bif fiB n b m h s then hlN n b m h s i else bif rsB n b m h s then 0 else hlN n b m h s i
end
def dr0 (X : Int) : Bool := bif X == 1 then false else bif X == 2 then true else false
def dr1 (X : Int) : Bool := bif X == 1 then true else bif X == 2 then true else false
def dr2 (X : Int) : Bool := bif X == 1 then true else false
/-- Phase, cause, missing, timer. -/
def four (T : Tree FLeaf) : Int × Int × Int × Int := (nOf (stC T) 0, nOf (stC T) 1, nOf (stC T) 15, nOf (stC T) 16)
def seven (T : Tree FLeaf) : Int × Int × Int × Int × Int × Int × Int := (nOf (stC T) 5, nOf (stC T) 6, nOf (stC T) 7, nOf (stC T) 8, nOf (stC T) 9, nOf (stC T) 10, nOf (stC T) 11)
def aways (T : Tree FLeaf) : Int × Int × Int := (nOf (stC T) 12, nOf (stC T) 13, nOf (stC T) 14)
def acts (T : Tree FLeaf) : Bool × Bool × Bool × Bool := (bOf (stA T) 0, bOf (stA T) 1, bOf (stA T) 2, bOf (stA T) 3)
end Go.Proofs.Ytgiinciclnekjaa
