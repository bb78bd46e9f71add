/-
  Play without truths.
-/
import Derived.Test.YtgiinciclnekjaaG49Welds
set_option linter.unusedSimpArgs false
set_option linter.unusedVariables false
namespace Go.Proofs.Ytgiinciclnekjaa
open Sx Go.RowKit
set_option maxRecDepth 100000
noncomputable def pzA (n : Nat → Int) (lag : Int) (nb cb : Nat) : List Sv := [.agg (symL (fun _ => false) n 0 lsG), .one (.i .i64 lag false), slB nb cb, .one (.val (.slice none 0 0))]
noncomputable def pzT (K A : Nat) (B : Bool) (n : Nat → Int) (lag : Int) (cb : Nat) : Tree FLeaf := evFn tbl wr5 spS 300 12 49 (pzA n lag (nbK K) cb) (stB (brkL K A B) 0 (fun _ => undef))
def pthZ (K : Nat) : List Bool := match K with
  | 5 => [false, false, false]
  | 6 => [false, false, false]
  | _ => [false, false]
def nilT : Sv → Bool
  | .tup [(false, [.val (.slice none 0 0)]), (false, [.i .i64 0 true])] => true
  | _ => false
theorem pz_0_0 (B : Bool) (n : Nat → Int) (lag : Int) (cb : Nat) : (selW (pthZ 0) (pzT 0 0 B n lag cb)).map (fun r => (r.1, nilT r.2.1)) = some ([!(chkR (nOf (gsL n)) != 0), !(bif decide (lag < 0) then true else decide (lag > 20))] ++ dmB 0 B, true) := by kernel_rfl
theorem pz_1_0 (B : Bool) (n : Nat → Int) (lag : Int) (cb : Nat) : (selW (pthZ 1) (pzT 1 0 B n lag cb)).map (fun r => (r.1, nilT r.2.1)) = some ([!(chkR (nOf (gsL n)) != 0), !(bif decide (lag < 0) then true else decide (lag > 20))] ++ dmB 1 B, true) := by kernel_rfl
theorem pz_1_1 (B : Bool) (n : Nat → Int) (lag : Int) (cb : Nat) : (selW (pthZ 1) (pzT 1 1 B n lag cb)).map (fun r => (r.1, nilT r.2.1)) = some ([!(chkR (nOf (gsL n)) != 0), !(bif decide (lag < 0) then true else decide (lag > 20))] ++ dmB 1 B, true) := by kernel_rfl
theorem pz_1_2 (B : Bool) (n : Nat → Int) (lag : Int) (cb : Nat) : (selW (pthZ 1) (pzT 1 2 B n lag cb)).map (fun r => (r.1, nilT r.2.1)) = some ([!(chkR (nOf (gsL n)) != 0), !(bif decide (lag < 0) then true else decide (lag > 20))] ++ dmB 1 B, true) := by kernel_rfl
theorem pz_2_0 (B : Bool) (n : Nat → Int) (lag : Int) (cb : Nat) : (selW (pthZ 2) (pzT 2 0 B n lag cb)).map (fun r => (r.1, nilT r.2.1)) = some ([!(chkR (nOf (gsL n)) != 0), !(bif decide (lag < 0) then true else decide (lag > 20))] ++ dmB 2 B, true) := by kernel_rfl
theorem pz_2_1 (B : Bool) (n : Nat → Int) (lag : Int) (cb : Nat) : (selW (pthZ 2) (pzT 2 1 B n lag cb)).map (fun r => (r.1, nilT r.2.1)) = some ([!(chkR (nOf (gsL n)) != 0), !(bif decide (lag < 0) then true else decide (lag > 20))] ++ dmB 2 B, true) := by kernel_rfl
theorem pz_2_2 (B : Bool) (n : Nat → Int) (lag : Int) (cb : Nat) : (selW (pthZ 2) (pzT 2 2 B n lag cb)).map (fun r => (r.1, nilT r.2.1)) = some ([!(chkR (nOf (gsL n)) != 0), !(bif decide (lag < 0) then true else decide (lag > 20))] ++ dmB 2 B, true) := by kernel_rfl
theorem pz_3_0 (B : Bool) (n : Nat → Int) (lag : Int) (cb : Nat) : (selW (pthZ 3) (pzT 3 0 B n lag cb)).map (fun r => (r.1, nilT r.2.1)) = some ([!(chkR (nOf (gsL n)) != 0), !(bif decide (lag < 0) then true else decide (lag > 20))] ++ dmB 3 B, true) := by kernel_rfl
theorem pz_3_1 (B : Bool) (n : Nat → Int) (lag : Int) (cb : Nat) : (selW (pthZ 3) (pzT 3 1 B n lag cb)).map (fun r => (r.1, nilT r.2.1)) = some ([!(chkR (nOf (gsL n)) != 0), !(bif decide (lag < 0) then true else decide (lag > 20))] ++ dmB 3 B, true) := by kernel_rfl
theorem pz_3_2 (B : Bool) (n : Nat → Int) (lag : Int) (cb : Nat) : (selW (pthZ 3) (pzT 3 2 B n lag cb)).map (fun r => (r.1, nilT r.2.1)) = some ([!(chkR (nOf (gsL n)) != 0), !(bif decide (lag < 0) then true else decide (lag > 20))] ++ dmB 3 B, true) := by kernel_rfl
theorem pz_4_0 (B : Bool) (n : Nat → Int) (lag : Int) (cb : Nat) : (selW (pthZ 4) (pzT 4 0 B n lag cb)).map (fun r => (r.1, nilT r.2.1)) = some ([!(chkR (nOf (gsL n)) != 0), !(bif decide (lag < 0) then true else decide (lag > 20))] ++ dmB 4 B, true) := by kernel_rfl
theorem pz_4_1 (B : Bool) (n : Nat → Int) (lag : Int) (cb : Nat) : (selW (pthZ 4) (pzT 4 1 B n lag cb)).map (fun r => (r.1, nilT r.2.1)) = some ([!(chkR (nOf (gsL n)) != 0), !(bif decide (lag < 0) then true else decide (lag > 20))] ++ dmB 4 B, true) := by kernel_rfl
theorem pz_4_2 (B : Bool) (n : Nat → Int) (lag : Int) (cb : Nat) : (selW (pthZ 4) (pzT 4 2 B n lag cb)).map (fun r => (r.1, nilT r.2.1)) = some ([!(chkR (nOf (gsL n)) != 0), !(bif decide (lag < 0) then true else decide (lag > 20))] ++ dmB 4 B, true) := by kernel_rfl
theorem pz_5_0 (B : Bool) (n : Nat → Int) (lag : Int) (cb : Nat) : (selW (pthZ 5) (pzT 5 0 B n lag cb)).map (fun r => (r.1, nilT r.2.1)) = some ([!(chkR (nOf (gsL n)) != 0), !(bif decide (lag < 0) then true else decide (lag > 20))] ++ dmB 5 B, true) := by kernel_rfl
theorem pz_5_1 (B : Bool) (n : Nat → Int) (lag : Int) (cb : Nat) : (selW (pthZ 5) (pzT 5 1 B n lag cb)).map (fun r => (r.1, nilT r.2.1)) = some ([!(chkR (nOf (gsL n)) != 0), !(bif decide (lag < 0) then true else decide (lag > 20))] ++ dmB 5 B, true) := by kernel_rfl
theorem pz_5_2 (B : Bool) (n : Nat → Int) (lag : Int) (cb : Nat) : (selW (pthZ 5) (pzT 5 2 B n lag cb)).map (fun r => (r.1, nilT r.2.1)) = some ([!(chkR (nOf (gsL n)) != 0), !(bif decide (lag < 0) then true else decide (lag > 20))] ++ dmB 5 B, true) := by kernel_rfl
theorem pz_6_0 (B : Bool) (n : Nat → Int) (lag : Int) (cb : Nat) : (selW (pthZ 6) (pzT 6 0 B n lag cb)).map (fun r => (r.1, nilT r.2.1)) = some ([!(chkR (nOf (gsL n)) != 0), !(bif decide (lag < 0) then true else decide (lag > 20))] ++ dmB 6 B, true) := by kernel_rfl
theorem pz_6_1 (B : Bool) (n : Nat → Int) (lag : Int) (cb : Nat) : (selW (pthZ 6) (pzT 6 1 B n lag cb)).map (fun r => (r.1, nilT r.2.1)) = some ([!(chkR (nOf (gsL n)) != 0), !(bif decide (lag < 0) then true else decide (lag > 20))] ++ dmB 6 B, true) := by kernel_rfl
theorem pz_6_2 (B : Bool) (n : Nat → Int) (lag : Int) (cb : Nat) : (selW (pthZ 6) (pzT 6 2 B n lag cb)).map (fun r => (r.1, nilT r.2.1)) = some ([!(chkR (nOf (gsL n)) != 0), !(bif decide (lag < 0) then true else decide (lag > 20))] ++ dmB 6 B, true) := by kernel_rfl
theorem pz_7_0 (B : Bool) (n : Nat → Int) (lag : Int) (cb : Nat) : (selW (pthZ 7) (pzT 7 0 B n lag cb)).map (fun r => (r.1, nilT r.2.1)) = some ([!(chkR (nOf (gsL n)) != 0), !(bif decide (lag < 0) then true else decide (lag > 20))] ++ dmB 7 B, true) := by kernel_rfl
theorem pz_all {K A : Nat} (h : okK K A = true) (B : Bool) (n : Nat → Int) (lag : Int) (cb : Nat) : (selW (pthZ K) (pzT K A B n lag cb)).map (fun r => (r.1, nilT r.2.1)) = some ([!(chkR (nOf (gsL n)) != 0), !(bif decide (lag < 0) then true else decide (lag > 20))] ++ dmB K B, true) := by
  match K, A, h with
  | 0, 0, _ => exact pz_0_0 B n lag cb
  | 1, 0, _ => exact pz_1_0 B n lag cb
  | 1, 1, _ => exact pz_1_1 B n lag cb
  | 1, 2, _ => exact pz_1_2 B n lag cb
  | 2, 0, _ => exact pz_2_0 B n lag cb
  | 2, 1, _ => exact pz_2_1 B n lag cb
  | 2, 2, _ => exact pz_2_2 B n lag cb
  | 3, 0, _ => exact pz_3_0 B n lag cb
  | 3, 1, _ => exact pz_3_1 B n lag cb
  | 3, 2, _ => exact pz_3_2 B n lag cb
  | 4, 0, _ => exact pz_4_0 B n lag cb
  | 4, 1, _ => exact pz_4_1 B n lag cb
  | 4, 2, _ => exact pz_4_2 B n lag cb
  | 5, 0, _ => exact pz_5_0 B n lag cb
  | 5, 1, _ => exact pz_5_1 B n lag cb
  | 5, 2, _ => exact pz_5_2 B n lag cb
  | 6, 0, _ => exact pz_6_0 B n lag cb
  | 6, 1, _ => exact pz_6_1 B n lag cb
  | 6, 2, _ => exact pz_6_2 B n lag cb
  | 7, 0, _ => exact pz_7_0 B n lag cb
  | 0, a + 1, h => exact absurd h (by unfold okK; simp)
  | 1, a + 3, h => exact absurd h (by unfold okK; simp [Nat.ble_eq])
  | 2, a + 3, h => exact absurd h (by unfold okK; simp [Nat.ble_eq])
  | 3, a + 3, h => exact absurd h (by unfold okK; simp [Nat.ble_eq])
  | 4, a + 3, h => exact absurd h (by unfold okK; simp [Nat.ble_eq])
  | 5, a + 3, h => exact absurd h (by unfold okK; simp [Nat.ble_eq])
  | 6, a + 3, h => exact absurd h (by unfold okK; simp [Nat.ble_eq])
  | 7, a + 1, h => exact absurd h (by unfold okK; simp)
  | k + 8, a, h => exact absurd h (by unfold okK; simp [Nat.ble_eq])
theorem pzT_eq (K A : Nat) (B : Bool) (n : Nat → Int) (lag : Int) (cb : Nat) : pzT K A B n lag cb = evFn tbl wr5 spS 300 12 49 (pzA n lag (nbK K) cb) (stB (brkL K A B) 0 (fun _ => undef)) := by unfold pzT; rfl
theorem evFn_hidS {T : Tree FLeaf} {f : FuncId} {args : List Sv} {σ : St} {y : FLeaf} (hT : T = evFn tbl wr5 spS 300 12 f args σ) (hy : AtG T y) : FunOk Try.prog f args σ y.1 y.2 := by
  subst hT
  exact evFn_at tbl_ok tbl_any spS_ok hy.out
theorem nilT_eq {v : Sv} (h : nilT v = true) : v = .tup [(false, [.val (.slice none 0 0)]), (false, [.i .i64 0 true])] := by
  unfold nilT at h
  split at h
  · rfl
  · cases h
def nilV : Sv := .tup [(false, [.val (.slice none 0 0)]), (false, [.i .i64 0 true])]
theorem play_nil {K A : Nat} {B : Bool} {n : Nat → Int} {lag : Int} {cb : Nat} (hK : okK K A = true) (hchk : chkR (nOf (gsL n)) = 0) (hl : 0 ≤ lag ∧ lag ≤ 7)
    {w : World} {p1 : Nat × Nat} (hp1 : p1.1 < w.heap.size) (hc1 : ∀ j c, (brkL K A B)[j]? = some c → w.cell? ⟨p1.1, p1.2 + j, none⟩ = some (c.den env0)) :
    Calls Try.prog 49 ((pzA n lag (nbK K) cb).map (·.den (envB p1 p1))).toArray w fun en w' => en = .returned (nilV.den env0) ∧ Below w.heap.size w w' := by
  obtain ⟨cs, y, hw, hg⟩ := selW_map (pz_all hK B n lag cb)
  simp only [Prod.mk.injEq] at hg
  obtain ⟨k1, k2⟩ := hg
  have hat := selW_G hw (by
    rw [k1]
    intro c hc
    rcases List.mem_append.1 hc with hc | hc
    · simp only [List.mem_cons, List.not_mem_nil, or_false] at hc
      rcases hc with rfl | rfl
      · rw [hchk]; rfl
      · rw [decide_eq_false (by omega), decide_eq_false (by omega)]; rfl
    · exact dm_ok K B c hc)
  have hF := evFn_hidS (pzT_eq K A B n lag cb) hat
  rw [nilT_eq k2] at hF
  refine (hF.run (ctx0 w) (envB p1 p1) w (hpB (len := 0) (f := fun _ => undef) brk_free hp1 hp1 (fun off ho => by omega) hc1) (fun x hx => ?_)).mono fun en w' => ?_
  · simp only [pzA, List.mem_cons, List.not_mem_nil, or_false] at hx
    rcases hx with rfl | rfl | rfl | rfl
    · exact Sv.free_sc (show (Sv.agg _).freeB = true from symL_free _ _ _ _) _
    · trivial
    · unfold slB
      cases Nat.beq (nbK K) 0 with
      | true => trivial
      | false => exact ⟨rfl, trivial, trivial, trivial⟩
    · trivial
  · rintro ⟨e', -, hp', rfl, -⟩
    exact ⟨rfl, hp'.fr.os, hp'.fr.tape, hp'.fr.output, hp'.fr.size, fun k hk => hp'.fr.block k hk (by show ¬ w.heap.size ≤ k; omega)⟩
noncomputable def pz0 (n : Nat → Int) (lag : Int) : Tree FLeaf := evFn tbl wr5 spS 300 12 49 (pzA n lag 0 0) st0
theorem pz0_eq (n : Nat → Int) (lag : Int) : pz0 n lag = evFn tbl wr5 spS 300 12 49 (pzA n lag 0 0) st0 := by unfold pz0; rfl
theorem pz0_ev (n : Nat → Int) (lag : Int) : (selW [false, false] (pz0 n lag)).map (fun r => (r.1, nilT r.2.1)) = some ([!(chkR (nOf (gsL n)) != 0), !(bif decide (lag < 0) then true else decide (lag > 20))], true) := by kernel_rfl
/-- The rule, without truths. -/
noncomputable def plRule0 : List Sv → St → Tree FLeaf
  | [.agg gs, .one (.i .i64 lag _), br, .one (.val (.slice none 0 0))], σ => match isL lsG gs with
    | true => match br with
      | .one (.val (.slice none 0 0)) => .must (chkR (nOf (gsL (nOf gs))) == 0 && decide (0 ≤ lag ∧ lag ≤ 7)) (.leaf (nilV, σ))
      | .one (.slc id (.lit 0) n cp) => match brOf σ (.one (.slc id (.lit 0) n cp)) with
        | some (_, _, _, d) => .must d (.must (chkR (nOf (gsL (nOf gs))) == 0 && decide (0 ≤ lag ∧ lag ≤ 7)) (.leaf (nilV, σ)))
        | none => .fail
      | _ => .fail
    | false => .fail
  | _, _ => .fail
theorem nilV_free : nilV.freeB = true := rfl
theorem plRule0_ok {args : List Sv} {σ : St} {y : FLeaf} (hy : (plRule0 args σ).At y) : FunOk Try.prog 49 args σ y.1 y.2 := by
  unfold plRule0 at hy
  split at hy
  · rename_i gs lag fl br
    split at hy
    · rename_i h2
      split at hy
      · obtain ⟨hq, hy2⟩ := hy
        obtain rfl : _ = y := hy2
        rw [Bool.and_eq_true] at hq
        obtain ⟨q1, q2⟩ := hq
        obtain ⟨q3, q4⟩ := of_decide_eq_true q2
        refine FunOk.of_any nilV_free fun e w => ?_
        obtain ⟨cs, y, hw, hg⟩ := selW_map (pz0_ev (nOf gs) lag)
        simp only [Prod.mk.injEq] at hg
        obtain ⟨k1, k2⟩ := hg
        have hat := selW_G hw (by
          rw [k1]
          intro c hc
          simp only [List.mem_cons, List.not_mem_nil, or_false] at hc
          rcases hc with rfl | rfl
          · rw [show chkR (nOf (gsL (nOf gs))) = 0 by simpa using q1]; rfl
          · rw [decide_eq_false (by omega), decide_eq_false (by omega)]; rfl)
        have hF := evFn_hidS (pz0_eq (nOf gs) lag) hat
        rw [nilT_eq k2] at hF
        have h3 := hF.any (fun x hx => by
          simp only [pzA, List.mem_cons, List.not_mem_nil, or_false] at hx
          rcases hx with rfl | rfl | rfl | rfl
          · exact symL_free _ _ _ _
          · rfl
          · rfl
          · rfl) rfl w
        have e1 := canon_den h2 e env0
        have ee : [Sv.agg gs, Sv.one (Cv.i .i64 lag fl), Sv.one (Cv.val (.slice none 0 0)), Sv.one (Cv.val (.slice none 0 0))].map (·.den e) = (pzA (nOf gs) lag 0 0).map (·.den env0) := by
          show [Sv.den e (Sv.agg gs), Value.int .i64 lag, Value.slice none 0 0, Value.slice none 0 0] = [Sv.den env0 (Sv.agg (symL (fun _ => false) (nOf gs) 0 lsG)), Value.int .i64 lag, Value.slice none 0 0, Value.slice none 0 0]
          rw [e1]; rfl
        rw [ee]
        refine h3.mono fun en w' => ?_
        rintro ⟨rfl, hb⟩
        exact ⟨rfl, hb⟩
      · rename_i id nn cp
        split at hy
        · rename_i K A B d hbr
          obtain ⟨hd, hq, hy2⟩ := hy
          obtain rfl : _ = y := hy2
          rw [Bool.and_eq_true] at hq
          obtain ⟨q1, q2⟩ := hq
          refine FunOk.of_w nilV_free fun C e w hp ha => ?_
          have hlt : (e.pl id).1 < w.heap.size := by
            have h9 := hbr
            unfold brOf at h9
            split at h9
            · rename_i h0; cases h0
            · rename_i id' cp' h0
              obtain ⟨rfl, -, rfl, rfl⟩ : id = id' ∧ True ∧ nn = .lit 1 ∧ cp = cp' := by simpa using h0
              split at h9
              · rename_i hb
                exact hp.lt id _ (by simp only [Sx.look, hb]; rfl) rfl
              · cases h9
            · rename_i id' cp' h0
              obtain ⟨rfl, -, rfl, rfl⟩ : id = id' ∧ True ∧ nn = .lit 2 ∧ cp = cp' := by simpa using h0
              split at h9
              · rename_i hb
                exact hp.lt id _ (by simp only [Sx.look, hb]; rfl) rfl
              · cases h9
            · cases h9
          obtain ⟨g1, p1, cpb, g2, g3, g4⟩ := brOf_at hbr hd hp (p0 := e.pl id) hlt
          have := play_nil (K := K) (A := A) (B := B) (n := nOf gs) (lag := lag) (cb := cpb) g1 (by simpa using q1) (of_decide_eq_true q2) (w := w) (p1 := p1) g2 g4
          have e1 := canon_den h2 e (envB p1 p1)
          have e3 : (slB (nbK K) cpb).den (envB (e.pl id) p1) = (slB (nbK K) cpb).den (envB p1 p1) := by
            unfold slB
            cases Nat.beq (nbK K) 0 <;> rfl
          have ee : [Sv.agg gs, Sv.one (Cv.i .i64 lag fl), Sv.one (Cv.slc id (.lit 0) nn cp), Sv.one (Cv.val (.slice none 0 0))].map (·.den e) = (pzA (nOf gs) lag (nbK K) cpb).map (·.den (envB p1 p1)) := by
            show [Sv.den e (Sv.agg gs), Value.int .i64 lag, Sv.den e (Sv.one (Cv.slc id (.lit 0) nn cp)), Value.slice none 0 0] = [Sv.den (envB p1 p1) (Sv.agg (symL (fun _ => false) (nOf gs) 0 lsG)), Value.int .i64 lag, (slB (nbK K) cpb).den (envB p1 p1), Value.slice none 0 0]
            rw [e1, g3, e3]; rfl
          rw [ee]
          exact this
        · exact hy.elim
      · exact hy.elim
    · exact hy.elim
  · exact hy.elim
/-- Both rules. -/
noncomputable def plRuleA : List Sv → St → Tree FLeaf := fun args σ => match args with
  | [_, _, _, .one (.val _)] => plRule0 args σ
  | _ => plRule args σ
theorem plRuleA_ok {args : List Sv} {σ : St} {y : FLeaf} (hy : (plRuleA args σ).At y) : FunOk Try.prog 49 args σ y.1 y.2 := by
  unfold plRuleA at hy
  split at hy
  · exact plRule0_ok hy
  · exact plRule_ok hy
end Go.Proofs.Ytgiinciclnekjaa
