/-
  The laws of a machine's step that ProtectDead asks for.
-/
import Derived.Test.YtgiinciclnekjaaG34Welds
import Derived.Test.YtgiinciclnekjaaG35Welds
import Derived.Test.YtgiinciclnekjaaG36Welds
import Derived.Test.YtgiinciclnekjaaG37Welds
import Derived.Test.YtgiinciclnekjaaG38Welds
import Derived.Test.YtgiinciclnekjaaG39Welds
import Derived.Test.YtgiinciclnekjaaG40Welds
import Derived.Test.YtgiinciclnekjaaG33Welds
import Derived.Test.YtgiinciclnekjaaG5Welds
import Derived.Test.YtgiinciclnekjaaG26Welds
set_option linter.unusedSimpArgs false
set_option linter.unusedVariables false
namespace Go.Proofs.Ytgiinciclnekjaa
open Sx Go.RowKit
theorem six {p : Int} (hp : 0 ≤ p ∧ p < 6) : p = 0 ∨ p = 1 ∨ p = 2 ∨ p = 3 ∨ p = 4 ∨ p = 5 := by omega
section
variable {α : Type} (g : Int → α)
theorem pk0 : pick6 0 g = g 0 := rfl
theorem pk1 : pick6 1 g = g 1 := rfl
theorem pk2 : pick6 2 g = g 2 := rfl
theorem pk3 : pick6 3 g = g 3 := rfl
theorem pk4 : pick6 4 g = g 4 := rfl
theorem pk5 : pick6 5 g = g 5 := rfl
end
theorem four_1 {T : Tree FLeaf} {x : Int × Int × Int × Int} (h : four T = x) : nOf (stC T) 0 = x.1 := by subst h; rfl
theorem bads_1 {T : Tree FLeaf} {x : Bool × Bool × Bool} (h : bd3 T = x) : (bOf (stC T) 2, bOf (stC T) 3, bOf (stC T) 4) = x := by subst h; rfl
theorem acts_1 {T : Tree FLeaf} {x : Bool × Bool × Bool × Bool} (h : acts T = x) : (bOf (stA T) 0, bOf (stA T) 1, bOf (stA T) 2, bOf (stA T) 3) = x := by subst h; rfl
section
variable (n : Nat → Int) (b : Nat → Bool) (m : Nat → Int) (h : Nat → Bool) (s : Nat → Int)
/-- The new phase, where the signals are taken. -/
def phX (p : Int) : Int := pick6 p fun k => bif decide (k = 5) then 5 else bif decide (k = 4) then ph4 n b m h s else bif decide (k = 3) then ph3 n b m h s else bif decide (k = 2) then ph2 n b m h s else bif decide (k = 1) then ph1 n b m h s else ph0 n b m h s
theorem phX0 : phX n b m h s 0 = ph0 n b m h s := by unfold phX; exact pk0 _
theorem phX1 : phX n b m h s 1 = ph1 n b m h s := by unfold phX; exact pk1 _
theorem phX2 : phX n b m h s 2 = ph2 n b m h s := by unfold phX; exact pk2 _
theorem phX3 : phX n b m h s 3 = ph3 n b m h s := by unfold phX; exact pk3 _
theorem phX4 : phX n b m h s 4 = ph4 n b m h s := by unfold phX; exact pk4 _
theorem phX5 : phX n b m h s 5 = 5 := by unfold phX; exact pk5 _
def phN (p : Int) : Int := bif eS s then p else phX n b m h s p
theorem nwI0 {p : Int} (hp : 0 ≤ p ∧ p < 6) : nwI 0 p n b m h s = phN n b m h s p := by
  unfold nwI phN
  rcases six hp with rfl | rfl | rfl | rfl | rfl | rfl
  · rw [pk0, phX0]; exact four_1 (four0 n b m h s)
  · rw [pk1, phX1]; exact four_1 (four1 n b m h s)
  · rw [pk2, phX2]; exact four_1 (four2 n b m h s)
  · rw [pk3, phX3]; exact four_1 (four3 n b m h s)
  · rw [pk4, phX4]; exact four_1 (four4 n b m h s)
  · rw [pk5, phX5]; exact (four_1 (four5 n b m h s)).trans (by cases eS s <;> rfl)
theorem phX_six {p : Int} (hp : 0 ≤ p ∧ p < 6) : 0 ≤ phX n b m h s p ∧ phX n b m h s p < 6 := by
  rcases six hp with rfl | rfl | rfl | rfl | rfl | rfl
  · rw [phX0]
    unfold ph0
    cases (cW n b m h s != 0) <;> cases wcB h <;> cases h 29 <;> simp
  · rw [phX1]
    unfold ph1
    cases t1B n b m h s <;> cases lkB n s <;> cases prB n m <;> simp
  · rw [phX2]
    unfold ph2
    cases t2B n b m h s <;> simp
  · rw [phX3]
    unfold ph3
    cases loB n m <;> cases ccB n b h s <;> cases (ca3 n b m h s != 0) <;> simp
  · rw [phX4]
    unfold ph4
    cases fiB n b m h s <;> cases rsB n b m h s <;> simp
  · rw [phX5]; simp
theorem phN_six {p : Int} (hp : 0 ≤ p ∧ p < 6) : 0 ≤ phN n b m h s p ∧ phN n b m h s p < 6 := by
  unfold phN
  cases eS s with
  | true => exact hp
  | false => exact phX_six n b m h s hp
theorem phN_dead : phN n b m h s 5 = 5 := by
  unfold phN
  rw [phX5]
  cases eS s <;> rfl
/-- The act: told by the new phase. -/
def actX (X : Int) : Bool × Bool × Bool × Bool := (bif eS s then false else dr0 X, bif eS s then false else dr1 X, bif eS s then false else dr2 X, bif eS s then false else (X == 5))
theorem acts_at {p : Int} (hp : 0 ≤ p ∧ p < 6) : (acB 0 p n b m h s, acB 1 p n b m h s, acB 2 p n b m h s, acB 3 p n b m h s) = actX s (phX n b m h s p) := by
  unfold acB
  rcases six hp with rfl | rfl | rfl | rfl | rfl | rfl
  · rw [pk0, pk0, pk0, pk0, phX0]; exact acts_1 (acts0 n b m h s)
  · rw [pk1, pk1, pk1, pk1, phX1]; exact acts_1 (acts1 n b m h s)
  · rw [pk2, pk2, pk2, pk2, phX2]; exact acts_1 (acts2 n b m h s)
  · rw [pk3, pk3, pk3, pk3, phX3]; exact acts_1 (acts3 n b m h s)
  · rw [pk4, pk4, pk4, pk4, phX4]; exact acts_1 (acts4 n b m h s)
  · rw [pk5, pk5, pk5, pk5, phX5]
    refine (acts_1 (acts5 n b m h s)).trans ?_
    unfold actX
    rfl
theorem bads_at {p : Int} (hp : 0 ≤ p ∧ p < 6) : (nwB 2 p n b m h s, nwB 3 p n b m h s, nwB 4 p n b m h s) = (bdN n b m h s 0, bdN n b m h s 1, bdN n b m h s 2) := by
  unfold nwB
  rcases six hp with rfl | rfl | rfl | rfl | rfl | rfl
  · rw [pk0, pk0, pk0]; exact bads_1 (st_bad0 n b m h s)
  · rw [pk1, pk1, pk1]; exact bads_1 (st_bad1 n b m h s)
  · rw [pk2, pk2, pk2]; exact bads_1 (st_bad2 n b m h s)
  · rw [pk3, pk3, pk3]; exact bads_1 (st_bad3 n b m h s)
  · rw [pk4, pk4, pk4]; exact bads_1 (st_bad4 n b m h s)
  · rw [pk5, pk5, pk5]; exact bads_1 (st_bad5 n b m h s)
end
end Go.Proofs.Ytgiinciclnekjaa

/-
  The law ProtectDead: whatever the signals, true.
-/
set_option linter.unusedSimpArgs false
set_option linter.unusedVariables false
namespace Go.Proofs.Ytgiinciclnekjaa
open Sx Go.RowKit
theorem chk_ladder (n : Nat → Int) : chkR n = 0 ∨ chkR n = 2 := by
  unfold chkR
  rw [ladder_eq, ladder_eq]
  split
  · exact Or.inr rfl
  · split
    · exact Or.inr rfl
    · cases lastG n
      · exact Or.inl rfl
      · exact Or.inr rfl
/-- Where one way of a tree is told: its tests, its end. -/
theorem selW_map {α β : Type} {p : List Bool} {T : Tree α} {g : List Bool × α → β} {z : β} (h : (selW p T).map g = some z) : ∃ cs x, selW p T = some (cs, x) ∧ g (cs, x) = z := by
  obtain ⟨r, h1, h2⟩ := Option.map_eq_some_iff.1 h
  obtain ⟨cs, x⟩ := r
  exact ⟨cs, x, h1, h2⟩
theorem wayR_map {d : List FamP} {σ I : St} {o : Out} {T : Tree Leaf} {p : List Bool} {β : Type} {g : List Bool × St → β} {z : β} (h : (wayR d σ I o T p).map g = some z) : ∃ cs y, wayR d σ I o T p = some (cs, y) ∧ g (cs, y) = z := by
  obtain ⟨r, h1, h2⟩ := Option.map_eq_some_iff.1 h
  obtain ⟨cs, x⟩ := r
  exact ⟨cs, x, h1, h2⟩
theorem drvC_act {X Y : Int} {s : Nat → Int} {a b c e : Bool} (h : (a, b, c, e) = actX s X) (hY : eS s = false → Y = X) : drvC Y a b c = false := by
  unfold actX at h
  simp only [Prod.mk.injEq] at h
  obtain ⟨rfl, rfl, rfl, _⟩ := h
  unfold drvC
  cases he : eS s with
  | true => simp
  | false =>
    rw [hY he]
    by_cases h1 : X = 1
    · subst h1; rfl
    · by_cases h2 : X = 2
      · subst h2; rfl
      · simp [h1, h2, dr0, dr1, dr2]
theorem dead_ok {p : Int} (hp : 0 ≤ p ∧ p < 6) (n : Nat → Int) (b : Nat → Bool) (m : Nat → Int) (h : Nat → Bool) (s : Nat → Int) : deadC p (nwI 0 p n b m h s) (acB 0 p n b m h s) (acB 1 p n b m h s) (acB 2 p n b m h s) = false := by
  have hd : drvC (nwI 0 p n b m h s) (acB 0 p n b m h s) (acB 1 p n b m h s) (acB 2 p n b m h s) = false := by
    rw [nwI0 n b m h s hp]
    exact drvC_act (acts_at n b m h s hp) fun he => by unfold phN; rw [he]; rfl
  unfold deadC
  rw [hd]
  by_cases h5 : p = 5
  · subst h5
    rw [nwI0 n b m h s hp, phN_dead]; rfl
  · have : (p == 5) = false := by simp [h5]
    rw [this]; rfl
theorem stay_ok {p : Int} (hp : 0 ≤ p ∧ p < 6) (n : Nat → Int) (b : Nat → Bool) (m : Nat → Int) (h : Nat → Bool) (s : Nat → Int) :
    (bif b 1 then !nwB 2 p n b m h s else false) = false ∧ (bif b 2 then !nwB 3 p n b m h s else false) = false ∧ (bif b 3 then !nwB 4 p n b m h s else false) = false := by
  have hb := bads_at n b m h s hp
  simp only [Prod.mk.injEq] at hb
  obtain ⟨h1, h2, h3⟩ := hb
  rw [h1, h2, h3]
  refine ⟨?_, ?_, ?_⟩
  · cases hb : b 1 with
    | false => rfl
    | true => rw [bdN_stays (i := 0) hb]; rfl
  · cases hb : b 2 with
    | false => rfl
    | true => rw [bdN_stays (i := 1) hb]; rfl
  · cases hb : b 3 with
    | false => rfl
    | true => rw [bdN_stays (i := 2) hb]; rfl
theorem lg_iff {len : Nat} {i : Int} : lgB len i = true ↔ i < (len : Int) ∧ i < 100 := by
  unfold lgB
  by_cases h1 : i < (len : Int) <;> by_cases h2 : i < 100 <;> simp [h1, h2]
/-- The end of what stands behind the loop, and of what never comes to it. -/
def DdEnd (y : SLeaf) : Prop := (y.1 = .out .normal ∨ y.1 = .out .ret) ∧ ∃ l, evRes tbl y.2 (fnOf 3).results.toList = some (.one (.b true l))
theorem caS_seg {N cf fuel : Nat} {stops : List Nat} {k : List Kt} {o : Out} {σ : St} {y : SLeaf} {T : Tree SLeaf} (hE : T = evS tbl wr5 caS N cf stops fuel k o σ) (hA : AtG T y) : SegOk Try.prog N σ k o y := (seg_evS tbl_ok tbl_any caS_ok hE hA).1
theorem ddR_eq (n : Nat → Int) (len cap : Nat) (f : Nat → Value) (v : FVal) : ddR n len cap f v = evC tbl wr5 caS (fnOf 3).ntmps [] 300 (ddS n len cap f).body (ddI n len cap f v) := by
  unfold ddR; rfl
theorem ddX_eq (n : Nat → Int) (len cap : Nat) (f : Nat → Value) (v : FVal) : ddX n len cap f v = evS tbl wr5 caS (fnOf 3).ntmps 300 [0] 300 (ddK n len cap f) .normal (ddI n len cap f v) := by
  unfold ddX; rfl
theorem ddT_eq (n : Nat → Int) (len cap : Nat) (f : Nat → Value) : ddT n len cap f = evS tbl wr5 caS (fnOf 3).ntmps 300 [0] 300 [.code (cdOf 3)] .normal (enterSt (withVr (stO 44 (len * 31) f) (evVr wr5 3 300 (fnOf 3))) [.agg (symL (fun _ => false) n 0 lsG), .one (.slc 0 (.lit 0) (.opq len) (.opq cap))]) := by
  unfold ddT upT; rfl
theorem dd_round (n : Nat → Int) (len cap : Nat) (f : Nat → Value) (hf : ∀ j, j < len → All2 Lf.ok lsS (elAt f 31 j)) (v : FVal) (hv : 0 ≤ v.i 0 ∧ v.i 0 ≤ 100 ∧ 0 ≤ v.i 1 ∧ v.i 1 < 6) :
    ∃ o y, SegOk Try.prog (fnOf 3).ntmps (ddI n len cap f v) [.code (ddS n len cap f).body] .normal (.out o, y) ∧ Ext (ddI n len cap f v) y ∧ okF ddD (ddS n len cap f).st y = true ∧ (newL (ddI n len cap f v) y).all (okWf ddD (ddS n len cap f).st) = true ∧
      ((o = .normal ∧ (0 ≤ (rvV ddD y).i 0 ∧ (rvV ddD y).i 0 ≤ 100 ∧ 0 ≤ (rvV ddD y).i 1 ∧ (rvV ddD y).i 1 < 6) ∧ (100 - (rvV ddD y).i 0).toNat < (100 - v.i 0).toNat) ∨ (o = .exit 0 ∧ True)) := by
  obtain ⟨h1, h2, h3, h4⟩ := hv
  cases hl : lgB len (v.i 0) with
  | false =>
    obtain ⟨cs, y, hw, hg⟩ := wayR_map (dd_out n len cap f v)
    obtain ⟨w1, w2, w3⟩ := wayR_at hw
    have hcs : ∀ c ∈ cs, c = true := by
      simp only at hg
      rw [hg]
      intro c hc
      simp only [List.mem_cons, List.not_mem_nil, or_false] at hc
      rw [hc, hl]; rfl
    obtain ⟨s1, s2⟩ := seg_evC tbl_ok tbl_any caS_ok (ddR_eq n len cap f v) (w1 hcs)
    exact ⟨.exit 0, y, s1, s2, w2, w3, Or.inr ⟨rfl, trivial⟩⟩
  | true =>
    obtain ⟨g1, g2⟩ := lg_iff.1 hl
    obtain ⟨cs, y, hw, hg⟩ := wayR_map (dd_go n len cap f v)
    obtain ⟨w1, w2, w3⟩ := wayR_at hw
    simp only [Prod.mk.injEq] at hg
    obtain ⟨k1, k2, k3⟩ := hg
    obtain ⟨i, hi⟩ := Int.eq_ofNat_of_zero_le h1
    have hti : (v.i 0).toNat = i := by rw [hi]; rfl
    have hil : i < len := by omega
    have hdead := dead_ok ⟨h3, h4⟩ (nOf (gsL n)) (bOf (csL v)) (nOf (csL v)) (bOf (sgL f (v.i 0))) (nOf (sgL f (v.i 0)))
    obtain ⟨b1, b2, b3⟩ := stay_ok ⟨h3, h4⟩ (nOf (gsL n)) (bOf (csL v)) (nOf (csL v)) (bOf (sgL f (v.i 0))) (nOf (sgL f (v.i 0)))
    have hcs : ∀ c ∈ cs, c = true := by
      rw [k1]
      intro c hc
      unfold goL at hc
      simp only [List.mem_cons, List.not_mem_nil, or_false] at hc
      rcases hc with rfl | rfl | rfl | rfl | rfl | rfl | rfl | rfl | rfl
      · exact hl
      · exact decide_eq_true ⟨h1, g1⟩
      · refine decide_eq_true ?_
        rw [hti]
        have := Nat.mul_le_mul_right 31 (show i + 1 ≤ len from hil)
        omega
      · rw [hti]; exact rows_isV (hf i hil) rfl
      · exact decide_eq_true ⟨h3, h4⟩
      · exact congrArg (!·) hdead
      · exact congrArg (!·) b1
      · exact congrArg (!·) b2
      · exact congrArg (!·) b3
    obtain ⟨s1, s2⟩ := seg_evC tbl_ok tbl_any caS_ok (ddR_eq n len cap f v) (w1 hcs)
    have hwr : IntKind.i64.wrap (v.i 0 + 1) = v.i 0 + 1 := Go.IntWalk.i64_in _ ⟨by omega, by omega⟩
    have e0 : (rvV ddD y).i 0 = v.i 0 + 1 := by show rvI ddD y 0 = _; rw [k2, hwr]
    have e1 : (rvV ddD y).i 1 = rI n v f 0 := k3
    have e2 := phN_six (nOf (gsL n)) (bOf (csL v)) (nOf (csL v)) (bOf (sgL f (v.i 0))) (nOf (sgL f (v.i 0))) ⟨h3, h4⟩
    rw [← nwI0 _ _ _ _ _ ⟨h3, h4⟩] at e2
    refine ⟨.normal, y, s1, s2, w2, w3, Or.inl ⟨rfl, ⟨by omega, by omega, by rw [e1]; exact e2.1, by rw [e1]; exact e2.2⟩, by omega⟩⟩
theorem dd_tail (n : Nat → Int) (len cap : Nat) (f : Nat → Value) (v : FVal) : SegTo Try.prog (fnOf 3).ntmps (ddI n len cap f v) (ddK n len cap f) .normal DdEnd := by
  obtain ⟨cs, x, hw, hg⟩ := selW_map (dd_end n len cap f v)
  simp only [Prod.mk.injEq] at hg
  obtain ⟨q1, q2⟩ := hg
  have hat := selW_G hw (by rw [q1]; intro c hc; cases hc)
  exact (caS_seg (ddX_eq n len cap f v) hat).to (retB_at q2)
theorem dd_seg (n : Nat → Int) (len cap : Nat) (f : Nat → Value) (hf : ∀ j, j < len → All2 Lf.ok lsS (elAt f 31 j)) :
    SegTo Try.prog (fnOf 3).ntmps (enterSt (withVr (stO 44 (len * 31) f) (evVr wr5 3 300 (fnOf 3))) [.agg (symL (fun _ => false) n 0 lsG), .one (.slc 0 (.lit 0) (.opq len) (.opq cap))]) [.code (cdOf 3)] .normal DdEnd := by
  cases hk : (chkR n != 0) with
  | true =>
    obtain ⟨cs, x, hw, hg⟩ := selW_map (dd_bad n len cap f)
    simp only [Prod.mk.injEq] at hg
    obtain ⟨k1, k2⟩ := hg
    have h2 : chkR n = 2 := by
      rcases chk_ladder n with h | h
      · rw [h] at hk; cases hk
      · exact h
    rw [h2] at k2
    have hat := selW_G hw (by
      rw [k1]
      intro c hc
      simp only [List.mem_cons, List.not_mem_nil, or_false] at hc
      rw [hc, hk])
    exact (caS_seg (ddT_eq n len cap f) hat).to (retB_at k2)
  | false =>
    obtain ⟨cs, x, hw, hg⟩ := selW_map (dd_up n len cap f)
    simp only [Prod.mk.injEq] at hg
    obtain ⟨k1, k2, k3⟩ := hg
    have hat := selW_G hw (by
      rw [k1]
      intro c hc
      simp only [List.mem_cons, List.not_mem_nil, or_false] at hc
      rcases hc with rfl | rfl <;> rw [hk] <;> rfl)
    obtain ⟨S, hS⟩ := Option.isSome_iff_exists.1 k2
    have hSe : ddS n len cap f = S := by unfold ddS; rw [hw]; simp only [Option.map_some, Option.bind_some, hS, Option.getD_some]
    have hx := stpOf_at hS
    rw [← hSe, k3] at hx
    have hK : (ddS n len cap f).rest = ddK n len cap f := by unfold ddK; rfl
    rw [hK] at hx
    refine (caS_seg (ddT_eq n len cap f) hat).then_ hx ?_
    refine seg_block ?_
    have ent := dd_ent n len cap f
    simp only [Prod.mk.injEq] at ent
    obtain ⟨e1, e2, e3⟩ := ent
    have h0 : 0 ≤ (rvV ddD (ddS n len cap f).st).i 0 ∧ (rvV ddD (ddS n len cap f).st).i 0 ≤ 100 ∧ 0 ≤ (rvV ddD (ddS n len cap f).st).i 1 ∧ (rvV ddD (ddS n len cap f).st).i 1 < 6 := by
      rw [rvV_i, rvV_i, e2, e3]
      exact ⟨by decide, by decide, by decide, by decide⟩
    have hI : ∀ v, (ddS n len cap f).st.apps (famW v 0 ddD) = some (ddI n len cap f v) := fun v => by
      obtain ⟨I, hI⟩ := Option.isSome_iff_exists.1 (dd_fam n len cap f v)
      unfold ddI
      rw [hI, Option.getD_some]
    exact loop_then (k := 0) (rest := (ddK n len cap f)) (body := (ddS n len cap f).body) ddD (σ := (ddS n len cap f).st) (ddI n len cap f) hI e1 (fun v => 0 ≤ v.i 0 ∧ v.i 0 ≤ 100 ∧ 0 ≤ v.i 1 ∧ v.i 1 < 6) (fun _ => True) (fun v => (100 - v.i 0).toNat) h0 (fun v hv => dd_round n len cap f hf v hv) (fun v _ => dd_tail n len cap f v)
end Go.Proofs.Ytgiinciclnekjaa

/-
  Truths that are all possible: the test ahead of Play finds none that is not.
-/
set_option linter.unusedSimpArgs false
set_option linter.unusedVariables false
namespace Go.Proofs.Ytgiinciclnekjaa
open Sx Go.RowKit
set_option maxRecDepth 100000
namespace Sx
/-- A call, from what its code comes to. -/
theorem seg_ret {P : Program} {tb : Tb} {f : FuncId} {fn : Func} {c : Code} (hT : TbOk P tb) (hf : P.funcs[f]? = some fn) (hb : fn.body = some c) {args : List Sv} {σ : St} {vs : List Nat} {Ψ : SLeaf → Prop} (hle : args.length ≤ fn.ntmps)
    (h : SegTo P fn.ntmps (enterSt (withVr σ vs) args) [.code c] .normal fun y => (y.1 = .out .normal ∨ y.1 = .out .ret) ∧ (∃ v, evRes tb y.2 fn.results.toList = some v) ∧ Ψ y)
    {e : Env} {w : World} (hp : Hp (ctx0 w) e (look σ) w) (ha : ∀ x ∈ args, x.sc (look σ)) : Calls P f (args.map (·.den e)).toArray w fun en w' => ∃ (y : SLeaf) (v : Sv) (e' : Env), Ψ y ∧ evRes tb y.2 fn.results.toList = some v ∧ en = .returned (v.den e') ∧ v.sc (look y.2) ∧ Hp (ctx0 w) e' (look y.2) w' ∧ Below w.heap.size w w' := by
  have hR := enter_rel (σ := withVr σ vs) (by rw [look_withVr]; exact hp) (by rw [look_withVr]; exact ha) hle
  refine calls_of_wp hf hb ?_
  refine h.run (ctx0 w) e _ w (bodyPost P fn _) hR fun y hy e' a' w' hR' => ?_
  obtain ⟨ho, ⟨v, hv⟩, hΨ⟩ := hy
  obtain ⟨r1, r2⟩ := evRes_run hT hR' hv
  have hB : Below w.heap.size w w' := ⟨hR'.hp.fr.os, hR'.hp.fr.tape, hR'.hp.fr.output, hR'.hp.fr.size, fun k hk => hR'.hp.fr.block k hk (by show ¬ w.heap.size ≤ k; omega)⟩
  have hend : ∃ v', (results fn a'.tmps).run P w' = .ok v' w' ∧ ∃ (y : SLeaf) (v : Sv) (e' : Env), Ψ y ∧ evRes tb y.2 fn.results.toList = some v ∧ Ending.returned v' = .returned (v.den e') ∧ v.sc (look y.2) ∧ Hp (ctx0 w) e' (look y.2) w' ∧ Below w.heap.size w w' := ⟨_, r1, y, v, e', hΨ, hv, rfl, r2, hR'.hp, hB⟩
  obtain ⟨f', σ'⟩ := y
  rcases ho with ho | ho
  · simp only at ho; subst ho
    exact ⟨hR'.df, hend⟩
  · simp only at ho; subst ho
    exact ⟨hR'.df, hend⟩
end Sx
/-- The cells of a truth: the quantities, the errors of the channels, what a channel shows that lies; crash, water; link, pack; want, reset. -/
def lsT : List Lf := List.replicate 25 (.i .i64) ++ [.b, .b, .i .i64, .i .i64, .b, .b]
def qB (x : Int) : Bool := bif decide (x ≥ -1099511627776) then decide (x ≤ 1099511627776) else false
def rB' (x : Int) : Bool := bif decide (x < -549755813888) then true else decide (x > 549755813888)
/-- Whether a truth is possible. -/
def posB (n : Nat → Int) : Bool := (List.range 5).foldr (fun q r => bif (bif !qB (n q) then true else !qB (n (20 + q))) then false else bif rB' (n (5 + q)) then false else bif rB' (n (10 + q)) then false else bif rB' (n (15 + q)) then false else r) (bif qB (n 27) then qB (n 28) else false)
theorem pos_eval (b : Nat → Bool) (n : Nat → Int) : res (evFn tbl wr5 (fun _ => none) 300 12 82 [.agg (symL b n 0 lsT)] st0) = some ([], .one (.b (posB n))) := by kernel_rfl
/-- Truth j of a row. -/
def trI (f : Nat → Value) (o : Nat) (k : Nat) : Int := viOf (f (o + k))
def trB (f : Nat → Value) (o : Nat) (k : Nat) : Bool := vbOf (f (o + k))
def isT (f : Nat → Value) (o : Nat) : Bool := (List.range 31).all fun k => (lfAt lsT k).isV (f (o + k))
def truOk (f : Nat → Value) (j : Nat) : Bool := isT f (j * 31) && posB (trI f (j * 31))
noncomputable def caN : CallF := evFn tbl wr5 (fun _ => none) 300 12
theorem caN_ok : CallFOk Try.prog caN := evFn_ok tbl_ok tbl_any spNone 12
noncomputable def ixArgs (len cap : Nat) : List Sv := [.one (.slc 0 (.lit 0) (.opq len) (.opq cap)), .one (.fn (.func 86) [])]
noncomputable def ixF : Func := fnOf 98
noncomputable def ixC : Code := cdOf 98
noncomputable def ixE (len cap : Nat) (f : Nat → Value) : St := enterSt (withVr (stO 83 (len * 31) f) (evVr wr5 98 300 ixF)) (ixArgs len cap)
noncomputable def ixT (len cap : Nat) (f : Nat → Value) : Tree SLeaf := evS tbl wr5 caN ixF.ntmps 300 [0] 300 [.code ixC] .normal (ixE len cap f)
noncomputable def ixS (len cap : Nat) (f : Nat → Value) : Stp := (((selW [] (ixT len cap f)).map (·.2)).bind stpOf).getD stp0
def ixD : List FamP := [.t 8 (.i .i64)]
noncomputable def ixI (len cap : Nat) (f : Nat → Value) (v : FVal) : St := ((ixS len cap f).st.apps (famW v 0 ixD)).getD st0
noncomputable def ixK (len cap : Nat) (f : Nat → Value) : List Kt := (ixS len cap f).rest
noncomputable def ixR (len cap : Nat) (f : Nat → Value) (v : FVal) : Tree Leaf := evC tbl wr5 caN ixF.ntmps [] 300 (ixS len cap f).body (ixI len cap f v)
noncomputable def ixX (len cap : Nat) (f : Nat → Value) (v : FVal) : Tree SLeaf := evS tbl wr5 caN ixF.ntmps 300 [0] 300 (ixK len cap f) .normal (ixI len cap f v)
/-- What is handed back, where it is a number. -/
noncomputable def retI (fn : Func) (x : SLeaf) : Option Int := match x.1 with
  | .out .ret => match evRes tbl x.2 fn.results.toList with
    | some (.one (.i .i64 n _)) => some n
    | _ => none
  | _ => none
theorem ix_up (len cap : Nat) (f : Nat → Value) : (selW [] (ixT len cap f)).map (fun r => (r.1, (stpOf r.2).isSome, (ixS len cap f).k)) = some ([], true, 0) := by kernel_rfl
theorem ix_ent (len cap : Nat) (f : Nat → Value) : (okF ixD (ixS len cap f).st (ixS len cap f).st, rvI ixD (ixS len cap f).st 0) = (true, 0) := by kernel_rfl
theorem ix_fam (len cap : Nat) (f : Nat → Value) (v : FVal) : ((ixS len cap f).st.apps (famW v 0 ixD)).isSome = true := by kernel_rfl
theorem ix_end (len cap : Nat) (f : Nat → Value) (v : FVal) : (selW [] (ixX len cap f v)).map (fun r => (r.1, retI ixF r.2)) = some ([], some (-1)) := by kernel_rfl
theorem ix_out (len cap : Nat) (f : Nat → Value) (v : FVal) : (wayR ixD (ixS len cap f).st (ixI len cap f v) (.exit 0) (ixR len cap f v) [false]).map (fun r => r.1) = some [!decide (v.i 0 < (len : Int))] := by kernel_rfl
theorem ix_go (len cap : Nat) (f : Nat → Value) (v : FVal) : (wayR ixD (ixS len cap f).st (ixI len cap f v) .normal (ixR len cap f v) [true, false]).map (fun r => (r.1, rvI ixD r.2 0)) = some ([decide (v.i 0 < (len : Int)), decide (0 ≤ v.i 0 ∧ v.i 0 < (len : Int)), decide (0 + (v.i 0).toNat * 31 + 31 ≤ len * 31), isT f (0 + (v.i 0).toNat * 31), !!posB (trI f (0 + (v.i 0).toNat * 31))], IntKind.i64.wrap (v.i 0 + 1)) := by kernel_rfl
end Go.Proofs.Ytgiinciclnekjaa

/-
  The test ahead of Play, as a rule.
-/
set_option linter.unusedSimpArgs false
set_option linter.unusedVariables false
namespace Go.Proofs.Ytgiinciclnekjaa
open Sx Go.RowKit
theorem caN_seg {N cf fuel : Nat} {stops : List Nat} {k : List Kt} {o : Out} {σ : St} {y : SLeaf} {T : Tree SLeaf} (hE : T = evS tbl wr5 caN N cf stops fuel k o σ) (hA : AtG T y) : SegOk Try.prog N σ k o y := (seg_evS tbl_ok tbl_any caN_ok hE hA).1
theorem ixT_eq (len cap : Nat) (f : Nat → Value) : ixT len cap f = evS tbl wr5 caN ixF.ntmps 300 [0] 300 [.code ixC] .normal (ixE len cap f) := by unfold ixT; rfl
theorem ixX_eq (len cap : Nat) (f : Nat → Value) (v : FVal) : ixX len cap f v = evS tbl wr5 caN ixF.ntmps 300 [0] 300 (ixK len cap f) .normal (ixI len cap f v) := by unfold ixX; rfl
theorem ixR_eq (len cap : Nat) (f : Nat → Value) (v : FVal) : ixR len cap f v = evC tbl wr5 caN ixF.ntmps [] 300 (ixS len cap f).body (ixI len cap f v) := by unfold ixR; rfl
theorem retI_at {fn : Func} {x : SLeaf} {n : Int} (h : retI fn x = some n) : (x.1 = .out .normal ∨ x.1 = .out .ret) ∧ ∃ l, evRes tbl x.2 fn.results.toList = some (.one (.i .i64 n l)) := by
  unfold retI at h
  split at h
  · rename_i ho
    split at h
    · rename_i v l hv
      obtain rfl := Option.some.inj h
      exact ⟨Or.inr ho, l, hv⟩
    · cases h
  · cases h
def IxEnd (y : SLeaf) : Prop := (y.1 = .out .normal ∨ y.1 = .out .ret) ∧ (∃ v, evRes tbl y.2 ixF.results.toList = some v) ∧ ∃ l, evRes tbl y.2 ixF.results.toList = some (.one (.i .i64 (-1) l))
theorem all_nil : ∀ c ∈ ([] : List Bool), c = true := fun c h => by cases h
theorem ix_seg (len cap : Nat) (f : Nat → Value) (hlen : len ≤ maxLen) (hf : ∀ j, j < len → truOk f j = true) : SegTo Try.prog ixF.ntmps (ixE len cap f) [.code ixC] .normal IxEnd := by
  obtain ⟨cs, x, hw, hg⟩ := selW_map (ix_up len cap f)
  simp only [Prod.mk.injEq] at hg
  obtain ⟨k1, k2, k3⟩ := hg
  have hat := selW_G hw (by rw [k1]; exact all_nil)
  obtain ⟨S, hS⟩ := Option.isSome_iff_exists.1 k2
  have hSe : ixS len cap f = S := by unfold ixS; rw [hw]; simp only [Option.map_some, Option.bind_some, hS, Option.getD_some]
  have hx := stpOf_at hS
  rw [← hSe, k3] at hx
  refine (caN_seg (ixT_eq len cap f) hat).then_ hx ?_
  refine seg_block ?_
  have ent := ix_ent len cap f
  simp only [Prod.mk.injEq] at ent
  obtain ⟨e1, e2⟩ := ent
  have hI : ∀ v, (ixS len cap f).st.apps (famW v 0 ixD) = some (ixI len cap f v) := fun v => by
    obtain ⟨I, hI⟩ := Option.isSome_iff_exists.1 (ix_fam len cap f v)
    unfold ixI
    rw [hI, Option.getD_some]
  have hml : (len : Int) ≤ 9223372036854775807 := by
    have : maxLen ≤ 9223372036854775807 := by decide
    omega
  refine loop_then (k := 0) (rest := ixK len cap f) (body := (ixS len cap f).body) ixD (σ := (ixS len cap f).st) (ixI len cap f) hI e1 (fun v => 0 ≤ v.i 0 ∧ v.i 0 ≤ len) (fun _ => True) (fun v => ((len : Int) - v.i 0).toNat) (by rw [rvV_i, e2]; exact ⟨Int.le_refl _, by omega⟩) (fun v hv => ?_) (fun v _ => ?_)
  · obtain ⟨h1, h2⟩ := hv
    by_cases hl : v.i 0 < (len : Int)
    · obtain ⟨cs, y, hw, hg⟩ := wayR_map (ix_go len cap f v)
      obtain ⟨w1, w2, w3⟩ := wayR_at hw
      simp only [Prod.mk.injEq] at hg
      obtain ⟨k1, k2⟩ := hg
      obtain ⟨i, hi⟩ := Int.eq_ofNat_of_zero_le h1
      have hti : (v.i 0).toNat = i := by rw [hi]; rfl
      have hil : i < len := by omega
      have hok := hf i hil
      unfold truOk at hok
      rw [Bool.and_eq_true] at hok
      have hcs : ∀ c ∈ cs, c = true := by
        rw [k1]
        intro c hc
        rw [hti, Nat.zero_add] at hc
        simp only [List.mem_cons, List.not_mem_nil, or_false] at hc
        rcases hc with rfl | rfl | rfl | rfl | rfl
        · exact decide_eq_true hl
        · exact decide_eq_true ⟨h1, hl⟩
        · refine decide_eq_true ?_
          have := Nat.mul_le_mul_right 31 (show i + 1 ≤ len from hil)
          omega
        · exact hok.1
        · rw [hok.2]; rfl
      obtain ⟨s1, s2⟩ := seg_evC tbl_ok tbl_any caN_ok (ixR_eq len cap f v) (w1 hcs)
      have hwr : IntKind.i64.wrap (v.i 0 + 1) = v.i 0 + 1 := Go.IntWalk.i64_in _ ⟨by omega, by omega⟩
      have e0 : (rvV ixD y).i 0 = v.i 0 + 1 := by show rvI ixD y 0 = _; rw [k2, hwr]
      exact ⟨.normal, y, s1, s2, w2, w3, Or.inl ⟨rfl, ⟨by omega, by omega⟩, by omega⟩⟩
    · obtain ⟨cs, y, hw, hg⟩ := wayR_map (ix_out len cap f v)
      obtain ⟨w1, w2, w3⟩ := wayR_at hw
      have hcs : ∀ c ∈ cs, c = true := by
        simp only at hg
        rw [hg]
        intro c hc
        simp only [List.mem_cons, List.not_mem_nil, or_false] at hc
        rw [hc, decide_eq_false hl]; rfl
      obtain ⟨s1, s2⟩ := seg_evC tbl_ok tbl_any caN_ok (ixR_eq len cap f v) (w1 hcs)
      exact ⟨.exit 0, y, s1, s2, w2, w3, Or.inr ⟨rfl, trivial⟩⟩
  · obtain ⟨cs, x, hw, hg⟩ := selW_map (ix_end len cap f v)
    simp only [Prod.mk.injEq] at hg
    obtain ⟨q1, q2⟩ := hg
    have hat := selW_G hw (by rw [q1]; exact all_nil)
    refine (caN_seg (ixX_eq len cap f v) hat).to ?_
    obtain ⟨r1, l, r2⟩ := retI_at q2
    exact ⟨r1, ⟨_, r2⟩, l, r2⟩
theorem fn_ix : ixF.body = some ixC ∧ (2 : Nat) ≤ ixF.ntmps ∧ Try.prog.funcs[(98 : Nat)]? = some ixF := ⟨by kernel_rfl, Nat.le_of_ble_eq_true (by kernel_rfl), Try.func98⟩
theorem ix_any {len cap : Nat} {f : Nat → Value} (hlen : len ≤ maxLen) (hf : ∀ j, j < len → truOk f j = true) {a : Addr} {w : World} (hb : a.block < w.heap.size) (hc : ∀ off, off < len * 31 → w.cell? ⟨a.block, a.off + off, none⟩ = some (f off)) :
    Calls Try.prog 98 ((ixArgs len cap).map (·.den (envO a))).toArray w fun en w' => en = .returned (.int .i64 (-1)) ∧ Below w.heap.size w w' := by
  obtain ⟨f1, f2, f3⟩ := fn_ix
  refine (seg_ret tbl_ok f3 f1 (args := ixArgs len cap) f2 (ix_seg len cap f hlen hf) (hpO (T := 83) hb hc) (fun x hx => ?_)).mono fun en w' => ?_
  · simp only [ixArgs, List.mem_cons, List.not_mem_nil, or_false] at hx
    rcases hx with rfl | rfl
    · exact ⟨rfl, trivial, trivial, trivial⟩
    · exact fun p hp => by cases hp
  · rintro ⟨y, v, e', ⟨l, hl⟩, hv, rfl, -, -, hB⟩
    rw [hl] at hv
    obtain rfl := Option.some.inj hv
    exact ⟨rfl, hB⟩
/-- The rule of the search. -/
def ixRule : List Sv → St → Tree FLeaf
  | [.one (.slc id (.lit 0) (.opq n) _), .one (.fn (.func g) [])], σ => match alook σ.bk id with
    | some (.oq t _ m f _) => match Nat.beq t 83 && Nat.beq g 86 with
      | true => .must (decide (n * 31 ≤ m ∧ n ≤ maxLen)) (.must ((List.range n).all (truOk f)) (.leaf (.one (.i .i64 (-1) true), σ)))
      | false => .fail
    | _ => .fail
  | _, _ => .fail
theorem ixRule_ok {args : List Sv} {σ : St} {y : FLeaf} (hy : (ixRule args σ).At y) : FunOk Try.prog 98 args σ y.1 y.2 := by
  unfold ixRule at hy
  split at hy
  · rename_i id n cp g
    split at hy
    · rename_i t ro m f cpp hb
      split at hy
      · rename_i hL
        simp only [Bool.and_eq_true] at hL
        obtain ⟨h1, h2⟩ := hL
        obtain rfl := beq_iff'.1 h1
        obtain rfl := beq_iff'.1 h2
        obtain ⟨hq, hr, hy2⟩ := hy
        obtain rfl : _ = y := hy2
        obtain ⟨q1, q2⟩ := of_decide_eq_true hq
        refine FunOk.of_w rfl fun C e w hp ha => ?_
        have hk : Sx.look σ (.k id) = some (.bk (.oq 83 ro m f cpp)) := by simp only [Sx.look, hb]; rfl
        have h3 := ix_any (len := n) (cap := cp.den e) (f := f) q2 (fun j hj => List.all_eq_true.1 hr j (List.mem_range.2 hj)) (a := ⟨(e.pl id).1, (e.pl id).2, none⟩) (w := w) (hp.lt id _ hk rfl) (fun off ho => (hp.oq id _ _ _ f _ hk off (by omega)).1)
        exact h3
      · exact hy.elim
    · exact hy.elim
  · exact hy.elim
noncomputable def spI : FuncId → Option (List Sv → St → Tree FLeaf) := fun f => match Nat.beq f 98 with
  | true => some ixRule
  | false => none
theorem spI_ok : SpOk Try.prog spI := by
  intro f g hf args σ y hy
  unfold spI at hf
  split at hf
  · rename_i h1
    obtain rfl := beq_iff'.1 h1
    obtain rfl := Option.some.inj hf
    exact ixRule_ok hy
  · cases hf
set_option maxRecDepth 100000
theorem cf_eval (len cap : Nat) (f : Nat → Value) : res (evFn tbl wr5 spI 300 12 85 (ixArgs len cap) (stO 83 (len * 31) f)) = some ([decide (len * 31 ≤ len * 31 ∧ len ≤ maxLen), (List.range len).all (truOk f)], .one (.b false)) := by kernel_rfl
/-- The rule of the test. -/
def cfRule : List Sv → St → Tree FLeaf
  | [.one (.slc id (.lit 0) (.opq n) _), .one (.fn (.func g) [])], σ => match alook σ.bk id with
    | some (.oq t _ m f _) => match Nat.beq t 83 && Nat.beq g 86 with
      | true => .must (decide (n * 31 ≤ m ∧ n ≤ maxLen)) (.must ((List.range n).all (truOk f)) (.leaf (.one (.b false true), σ)))
      | false => .fail
    | _ => .fail
  | _, _ => .fail
theorem cfRule_ok {args : List Sv} {σ : St} {y : FLeaf} (hy : (cfRule args σ).At y) : FunOk Try.prog 85 args σ y.1 y.2 := by
  unfold cfRule at hy
  split at hy
  · rename_i id n cp g
    split at hy
    · rename_i t ro m f cpp hb
      split at hy
      · rename_i hL
        simp only [Bool.and_eq_true] at hL
        obtain ⟨h1, h2⟩ := hL
        obtain rfl := beq_iff'.1 h1
        obtain rfl := beq_iff'.1 h2
        obtain ⟨hq, hr, hy2⟩ := hy
        obtain rfl : _ = y := hy2
        obtain ⟨q1, q2⟩ := of_decide_eq_true hq
        refine FunOk.of_w rfl fun C e w hp ha => ?_
        have hk : Sx.look σ (.k id) = some (.bk (.oq 83 ro m f cpp)) := by simp only [Sx.look, hb]; rfl
        have h3 := res_ok tbl_ok tbl_any spI_ok (cf_eval n (cp.den e) f) (fun b hb => by
          simp only [List.mem_cons, List.not_mem_nil, or_false] at hb
          rcases hb with rfl | rfl
          · exact decide_eq_true ⟨Nat.le_refl _, q2⟩
          · exact hr)
        obtain ⟨σ', h3⟩ := h3
        have h4 := h3.run (ctx0 w) (envO ⟨(e.pl id).1, (e.pl id).2, none⟩) w (hpO (a := ⟨(e.pl id).1, (e.pl id).2, none⟩) (hp.lt id _ hk rfl) (fun off ho => (hp.oq id _ _ _ f _ hk off (by omega)).1)) (fun x hx => by
          simp only [ixArgs, List.mem_cons, List.not_mem_nil, or_false] at hx
          rcases hx with rfl | rfl
          · exact ⟨rfl, trivial, trivial, trivial⟩
          · exact fun p hp => by cases hp)
        refine h4.mono fun en w' => ?_
        rintro ⟨e', -, hp', rfl, -⟩
        exact ⟨rfl, hp'.fr.os, hp'.fr.tape, hp'.fr.output, hp'.fr.size, fun k hk => hp'.fr.block k hk (by show ¬ w.heap.size ≤ k; omega)⟩
      · exact hy.elim
    · exact hy.elim
  · exact hy.elim
end Go.Proofs.Ytgiinciclnekjaa

/-
  Play: the rules of what it calls; up to its loop.
-/
set_option linter.unusedSimpArgs false
set_option linter.unusedVariables false
namespace Go.Proofs.Ytgiinciclnekjaa
open Sx Go.RowKit
set_option maxRecDepth 100000
/-- Truths that are possible. -/
def posRule : List Sv → St → Tree FLeaf
  | [.agg cs], σ => match isL lsT cs with
    | true => .must (posB (nOf cs)) (.leaf (.one (.b true true), σ))
    | false => .fail
  | _, _ => .fail
theorem posRule_ok {args : List Sv} {σ : St} {y : FLeaf} (hy : (posRule args σ).At y) : FunOk Try.prog 82 args σ y.1 y.2 := by
  unfold posRule at hy
  split at hy
  · rename_i cs
    split at hy
    · rename_i hL
      obtain ⟨hq, hy2⟩ := hy
      obtain rfl : _ = y := hy2
      refine FunOk.of_any rfl fun e w => ?_
      have h3 := res_any tbl_ok tbl_any spNone (args := [.agg (symL (bOf cs) (nOf cs) 0 lsT)]) (fun x hx => by
        simp only [List.mem_cons, List.not_mem_nil, or_false] at hx
        subst hx; exact symL_free _ _ _ _) (pos_eval (bOf cs) (nOf cs)) (fun _ h => by cases h) w
      rw [hq] at h3
      have e1 := canon_den hL e env0
      have e2 : [Sv.agg cs].map (·.den e) = [Sv.agg (symL (bOf cs) (nOf cs) 0 lsT)].map (·.den env0) := by
        show [Sv.den e (Sv.agg cs)] = [Sv.den env0 (Sv.agg (canon lsT cs))]
        rw [e1]
      rw [e2]
      exact h3
    · exact hy.elim
  · exact hy.elim
noncomputable def spQ : FuncId → Option (List Sv → St → Tree FLeaf) := fun f => match Nat.beq f 85 with
  | true => some cfRule
  | false => match Nat.beq f 36 with
    | true => some mvR
    | false => match Nat.beq f 82 with
      | true => some posRule
      | false => spS f
theorem spQ_ok : SpOk Try.prog spQ := by
  intro f g hf args σ y hy
  unfold spQ at hf
  split at hf
  · rename_i h1
    obtain rfl := beq_iff'.1 h1
    obtain rfl := Option.some.inj hf
    exact cfRule_ok hy
  · split at hf
    · rename_i h1
      obtain rfl := beq_iff'.1 h1
      obtain rfl := Option.some.inj hf
      exact mvR_ok hy
    · split at hf
      · rename_i h1
        obtain rfl := beq_iff'.1 h1
        obtain rfl := Option.some.inj hf
        exact posRule_ok hy
      · exact spS_ok f g hf args σ y hy
noncomputable def caQ : CallF := evFn tbl wr5 spQ 300 12
theorem caQ_ok : CallFOk Try.prog caQ := evFn_ok tbl_ok tbl_any spQ_ok 12
noncomputable def plF : Func := fnOf 49
noncomputable def plCode : Code := cdOf 49
/-- The faults that are handed over: none; one. -/
def brk0 : List Cv := []
def brk1 (K A : Int) (B : Bool) : List Cv := [.i .i64 K false, .i .i64 A false, .b B false]
def stB (cs : List Cv) (len : Nat) (f : Nat → Value) : St := { st0 with bk := [(1, .ar 134 true cs none), (0, .oq 83 true (len * 31) f none)], nx := 2 }
def slB (n c : Nat) : Sv := bif Nat.beq n 0 then .one (.val (.slice none 0 0)) else .one (.slc 1 (.lit 0) (.lit n) (.opq c))
noncomputable def plA (n : Nat → Int) (lag : Int) (nb len : Nat) (cap : Nat × Nat) : List Sv := [.agg (symL (fun _ => false) n 0 lsG), .one (.i .i64 lag false), slB nb cap.2, .one (.slc 0 (.lit 0) (.opq len) (.opq cap.1))]
noncomputable def plE (cs : List Cv) (nb : Nat) (n : Nat → Int) (lag : Int) (len : Nat) (cap : Nat × Nat) (f : Nat → Value) : St := enterSt (withVr (stB cs len f) (evVr wr5 49 300 plF)) (plA n lag nb len cap)
noncomputable def plT (cs : List Cv) (nb : Nat) (n : Nat → Int) (lag : Int) (len : Nat) (cap : Nat × Nat) (f : Nat → Value) : Tree SLeaf := evS tbl wr5 caQ plF.ntmps 300 [0] 300 [.code plCode] .normal (plE cs nb n lag len cap f)
end Go.Proofs.Ytgiinciclnekjaa

/-
  Play: what a round does, in names.
-/
set_option linter.unusedSimpArgs false
set_option linter.unusedVariables false
namespace Go.Proofs.Ytgiinciclnekjaa
open Sx Go.RowKit
set_option maxRecDepth 100000
/-- The faults: 0 none; 1 to 6 one fault at A; 7 both contactors of the path are welded. -/
def brkL (K A : Nat) (B : Bool) : List Cv := match K with
  | 0 => []
  | 7 => [.i .i64 3 true, .i .i64 0 true, .b false true, .i .i64 3 true, .i .i64 1 true, .b false true]
  | K => [.i .i64 K true, .i .i64 A true, bif Nat.ble 5 K then .b B false else .b false true]
def nbK (K : Nat) : Nat := match K with
  | 0 => 0
  | 7 => 2
  | _ => 1
/-- The way past the tests ahead. -/
def pth (K : Nat) : List Bool := match K with
  | 5 => [false, false, false, false]
  | 6 => [false, false, false, false]
  | _ => [false, false, false]
def dmB (K : Nat) (B : Bool) : List Bool := match K with
  | 5 => [!(bif B then false else false)]
  | 6 => [!(bif B then false else false)]
  | _ => []
noncomputable def pyE (K A : Nat) (B : Bool) (n : Nat → Int) (lag : Int) (len : Nat) (cap : Nat × Nat) (f : Nat → Value) : St := plE (brkL K A B) (nbK K) n lag len cap f
noncomputable def pyT (K A : Nat) (B : Bool) (n : Nat → Int) (lag : Int) (len : Nat) (cap : Nat × Nat) (f : Nat → Value) : Tree SLeaf := evS tbl wr5 caQ plF.ntmps 300 [0] 300 [.code plCode] .normal (pyE K A B n lag len cap f)
noncomputable def pyS (K A : Nat) (B : Bool) (n : Nat → Int) (lag : Int) (len : Nat) (cap : Nat × Nat) (f : Nat → Value) : Stp := (((selW (pth K) (pyT K A B n lag len cap f)).map (·.2)).bind stpOf).getD stp0
/-- What changes: the index; the machine's cells; the plant's: fired, the ring, the place, shut; the row. -/
def cellsP (id : Nat) : Nat → Nat → List FamP
  | _, 0 => []
  | o, n + 1 => .c id o .b :: cellsP id (o + 1) n
def pyD1 : List FamP := (.t 44 (.i .i64) :: cellsD 4 1 lsP) ++ (cellsP 5 1 64 ++ (.c 5 65 (.i .i64) :: cellsP 5 73 3))
def pyD : List FamP := pyD1 ++ [.row 13 131 10 100 100]
noncomputable def pyI1 (K A : Nat) (B : Bool) (n : Nat → Int) (lag : Int) (len : Nat) (cap : Nat × Nat) (f : Nat → Value) (v : FVal) : St := ((pyS K A B n lag len cap f).st.apps (famW v 0 pyD1)).getD st0
noncomputable def pyI (K A : Nat) (B : Bool) (n : Nat → Int) (lag : Int) (len : Nat) (cap : Nat × Nat) (f : Nat → Value) (v : FVal) : St := ((pyS K A B n lag len cap f).st.apps (famW v 0 pyD)).getD st0
noncomputable def pyK (K A : Nat) (B : Bool) (n : Nat → Int) (lag : Int) (len : Nat) (cap : Nat × Nat) (f : Nat → Value) : List Kt := (pyS K A B n lag len cap f).rest
noncomputable def pyR1 (K A : Nat) (B : Bool) (n : Nat → Int) (lag : Int) (len : Nat) (cap : Nat × Nat) (f : Nat → Value) (v : FVal) : Tree Leaf := evC tbl wr5 caQ plF.ntmps [] 300 (pyS K A B n lag len cap f).body (pyI1 K A B n lag len cap f v)
noncomputable def pyR (K A : Nat) (B : Bool) (n : Nat → Int) (lag : Int) (len : Nat) (cap : Nat × Nat) (f : Nat → Value) (v : FVal) : Tree Leaf := evC tbl wr5 caQ plF.ntmps [] 300 (pyS K A B n lag len cap f).body (pyI K A B n lag len cap f v)
/-! What a round comes to. -/
def muB (K A i : Nat) : Bool := Nat.beq K 2 && Nat.beq A i
def liB (K A i : Nat) : Bool := Nat.beq K 1 && Nat.beq A i
def weB (K A i : Nat) : Bool := (Nat.beq K 3 && Nat.beq A i) || (Nat.beq K 7 && Nat.ble i 1)
def skB (K A i : Nat) : Bool := Nat.beq K 4 && Nat.beq A i
def wiB (K A i : Nat) : Bool := Nat.beq K 5 && Nat.beq A i
def baB (K A i : Nat) : Bool := Nat.beq K 6 && Nat.beq A i
def chX (K A : Nat) (n : Nat → Int) (i : Nat) : List Cv := .b (!muB K A i) true :: (List.range 5).map fun q => bif muB K A i then .i .i64 0 true else .i .i64 (bif liB K A i then n (20 + q) else IntKind.i64.wrap (n q + n (5 + (5 * i + q)))) false
/-- The signals of a truth (t, n), where sh says which contactors are shut. -/
def sgX (K A : Nat) (B : Bool) (t : Nat → Bool) (n : Nat → Int) (sh : Nat → Bool) : List Cv := chX K A n 0 ++ (chX K A n 1 ++ (chX K A n 2 ++ ((List.range 3).map (fun i => Cv.b (bif wiB K A i then B else t 25) false) ++ ((List.range 3).map (fun i => Cv.b (bif wiB K A i then B else t 26) false) ++ ((List.range 3).map (fun i => Cv.b (bif baB K A i then B else sh i) false) ++ [.i .i64 (n 27) false, .i .i64 (n 28) false, .b (t 29) false, .b (t 30) false])))))
/-- The machine's cells behind the phase. -/
def csM (v : FVal) : List Cv := symL v.b v.i 2 lsM
/-- The plant's cells. -/
def hdX (K A : Nat) (lag : Int) (v : FVal) : List Cv := .b true true :: ((List.range 64).map (fun j => Cv.b (v.b (22 + j)) false) ++ (.i .i64 (v.i 86) false :: .i .i64 lag false :: ((List.range 3).map (fun i => Cv.b (weB K A i) true) ++ ((List.range 3).map (fun i => Cv.b (skB K A i) true) ++ ((List.range 3).map (fun j => Cv.b (v.b (87 + j)) false) ++ ((List.range 3).map (fun i => Cv.b (muB K A i) true) ++ (List.range 3).map (fun i => Cv.b (liB K A i) true)))))))
section
variable (K A : Nat) (B : Bool) (n : Nat → Int) (lag : Int) (f : Nat → Value) (v : FVal)
def sgY : List Cv := sgX K A B (trB f (0 + (v.i 0).toNat * 31)) (trI f (0 + (v.i 0).toNat * 31)) (fun i => v.b (87 + i))
noncomputable def yI (j : Nat) : Int := nwI j (v.i 1) (nOf (gsL n)) (bOf (csM v)) (nOf (csM v)) (bOf (sgY K A B f v)) (nOf (sgY K A B f v))
noncomputable def yB (j : Nat) : Bool := nwB j (v.i 1) (nOf (gsL n)) (bOf (csM v)) (nOf (csM v)) (bOf (sgY K A B f v)) (nOf (sgY K A B f v))
noncomputable def yA (j : Nat) : Bool := acB j (v.i 1) (nOf (gsL n)) (bOf (csM v)) (nOf (csM v)) (bOf (sgY K A B f v)) (nOf (sgY K A B f v))
noncomputable def yD (j : Nat) : Bool := bOf (symL (yA K A B n f v) (fun _ => 0) 0 ls4) j
noncomputable def yP (j : Nat) : Bool := mvB (bOf (hdX K A lag v)) (yD K A B n f v) lag (v.i 86) j
/-- Whether current can flow. -/
noncomputable def yQ : Bool := bif yP K A B n lag f v 1 then false else bif yP K A B n lag f v 74 then (bif yP K A B n lag f v 73 then true else yP K A B n lag f v 75) else false
noncomputable def yM : List Value := [.int .i64 (yI K A B n f v 0), .int .i64 (yI K A B n f v 1), .bool (yA K A B n f v 0), .bool (yA K A B n f v 1), .bool (yA K A B n f v 2), .bool (yA K A B n f v 3), .bool (yP K A B n lag f v 73), .bool (yP K A B n lag f v 74), .bool (yP K A B n lag f v 75), .bool (yQ K A B n lag f v)]
end
/-- What is demanded of a round. -/
def yC (lag : Int) (len : Nat) (f : Nat → Value) (v : FVal) : List Bool := [decide (v.i 0 < (len : Int)), decide (0 ≤ v.i 0 ∧ v.i 0 < (len : Int)), decide (0 + (v.i 0).toNat * 31 + 31 ≤ len * 31), isT f (0 + (v.i 0).toNat * 31), posB (trI f (0 + (v.i 0).toNat * 31)), decide (0 ≤ v.i 1 ∧ v.i 1 < 6), decide (0 ≤ lag ∧ lag ≤ 7 ∧ 0 ≤ v.i 86 ∧ v.i 86 ≤ lag)]
def yC2 (v : FVal) : List Bool := [decide (v.n 90 * 10 ≤ v.m 90), decide ((v.n 90 + 1) * 24 ≤ 140737488355328 ∧ v.n 90 + 1 ≤ 140737488355328)]
def intJ : List Nat := [1, 2, 6, 7, 8, 9, 10, 11, 12, 13, 14, 15, 16, 17]
def booJ : List Nat := [3, 4, 5, 18, 19, 20, 21]
noncomputable def pyX (K A : Nat) (B : Bool) (n : Nat → Int) (lag : Int) (len : Nat) (cap : Nat × Nat) (f : Nat → Value) (v : FVal) : Tree SLeaf := evS tbl wr5 caQ plF.ntmps 300 [0] 300 (pyK K A B n lag len cap f) .normal (pyI K A B n lag len cap f v)
/-- The row that is handed back. -/
noncomputable def resR (fn : Func) (x : SLeaf) : Option (Nat × Nat × (Nat → Value)) := match x.1 with
  | .out .ret => match evRes tbl x.2 fn.results.toList with
    | some (.tup [(false, [.slc id (.lit 0) (.opq m) (.nam _)]), (false, [.i .i64 0 true])]) => match alook x.2.bk id with
      | some (.oq _ false k g _) => some (m, k, g)
      | _ => none
    | _ => none
  | _ => none
/-- What is read of a state. -/
def rdInts (y : St) : List Int := intJ.map (rvI pyD y)
def rdBools (y : St) : List Bool := booJ.map (rvB pyD y)
def rdRing (y : St) : List Bool := (List.range 64).map fun j => rvB pyD y (22 + j)
def rdShut (y : St) : List Bool := (List.range 3).map fun j => rvB pyD y (87 + j)
section
variable (K A : Nat) (B : Bool) (n : Nat → Int) (lag : Int) (len : Nat) (cap : Nat × Nat) (f : Nat → Value) (v : FVal)
noncomputable def pyUp : Option (List Bool × Bool × Nat × Bool × Bool × Bool × List Int × List Bool × List Bool × Int × List Bool × Int) := (selW (pth K) (pyT K A B n lag len cap f)).map fun r => let σ := (pyS K A B n lag len cap f).st; (r.1, (stpOf r.2).isSome, (pyS K A B n lag len cap f).k, okF pyD1 σ σ, (σ.apps (famW v 0 pyD1)).isSome, (σ.apps (famW v 0 pyD)).isSome, rdInts σ, rdBools σ, rdRing σ, rvI pyD σ 86, rdShut σ, rvI pyD σ 0)
def pyUpX : Option (List Bool × Bool × Nat × Bool × Bool × Bool × List Int × List Bool × List Bool × Int × List Bool × Int) := some ([!(chkR (nOf (gsL n)) != 0), !(bif decide (lag < 0) then true else decide (lag > 20))] ++ dmB K B ++ [!decide ((len : Int) > 2000), decide (len * 31 ≤ len * 31 ∧ len ≤ maxLen), (List.range len).all (truOk f)], true, 0, true, true, true, intJ.map (fun _ => 0), booJ.map (fun _ => false), (List.range 64).map (fun _ => false), 0, [false, false, false], 0)
noncomputable def pyGo : Option (List Bool × Int × List Int × List Bool × List Bool × Int × List Bool × Option (Nat × Nat × (Nat → Value))) := (wayR pyD (pyS K A B n lag len cap f).st (pyI K A B n lag len cap f v) .normal (pyR K A B n lag len cap f v) [true]).map fun r => (r.1, rvI pyD r.2 0, rdInts r.2, rdBools r.2, rdRing r.2, rvI pyD r.2 86, rdShut r.2, (rvR pyD r.2 90).map fun r => (r.n, r.m, r.f))
noncomputable def pyGoX : Option (List Bool × Int × List Int × List Bool × List Bool × Int × List Bool × Option (Nat × Nat × (Nat → Value))) := some (yC lag len f v ++ yC2 v, IntKind.i64.wrap (v.i 0 + 1), intJ.map (fun j => yI K A B n f v (j - 1)), booJ.map (fun j => yB K A B n f v (j - 1)), (List.range 64).map (fun j => yP K A B n lag f v (1 + j)), atN lag (v.i 86), (List.range 3).map (fun j => yP K A B n lag f v (73 + j)), some (v.n 90 + 1, (v.n 90 + 1) * 10, appF (v.n 90 * 10) (v.f 90) (yM K A B n lag f v)))
noncomputable def pyGo1 : Option (List Bool × Int × List Int × List Bool × List Bool × Int × List Bool × Option (Nat × Nat × List Value)) := (wayR pyD (pyS K A B n lag len cap f).st (pyI1 K A B n lag len cap f v) .normal (pyR1 K A B n lag len cap f v) [true]).map fun r => (r.1, rvI pyD r.2 0, rdInts r.2, rdBools r.2, rdRing r.2, rvI pyD r.2 86, rdShut r.2, (rvR pyD r.2 90).map fun r => (r.n, r.m, (List.range 10).map r.f))
noncomputable def pyGo1X : Option (List Bool × Int × List Int × List Bool × List Bool × Int × List Bool × Option (Nat × Nat × List Value)) := some (yC lag len f v, IntKind.i64.wrap (v.i 0 + 1), intJ.map (fun j => yI K A B n f v (j - 1)), booJ.map (fun j => yB K A B n f v (j - 1)), (List.range 64).map (fun j => yP K A B n lag f v (1 + j)), atN lag (v.i 86), (List.range 3).map (fun j => yP K A B n lag f v (73 + j)), some (1, 10, yM K A B n lag f v))
noncomputable def pyOut : Option (List Bool × Option (Nat × Nat × (Nat → Value))) := (wayR pyD (pyS K A B n lag len cap f).st (pyI K A B n lag len cap f v) (.exit 0) (pyR K A B n lag len cap f v) [false]).map fun r => (r.1, (rvR pyD r.2 90).map fun r => (r.n, r.m, r.f))
noncomputable def pyEnd : Option (List Bool × Option (Nat × Nat × (Nat → Value))) := (selW [] (pyX K A B n lag len cap f v)).map fun r => (r.1, resR plF r.2)
/-- All that is checked of one case. -/
noncomputable def pyL := (pyUp K A B n lag len cap f v, pyGo K A B n lag len cap f v, pyGo1 K A B n lag len cap f v, pyOut K A B n lag len cap f v, pyEnd K A B n lag len cap f v)
noncomputable def pyLX := (pyUpX K B n lag len f, pyGoX K A B n lag len f v, pyGo1X K A B n lag len f v, (some ([!decide (v.i 0 < (len : Int))], some (v.n 90, v.m 90, v.f 90)) : Option (List Bool × Option (Nat × Nat × (Nat → Value)))), (some ([], some (v.n 90, v.m 90, v.f 90)) : Option (List Bool × Option (Nat × Nat × (Nat → Value)))))
def PyOk : Prop := pyL K A B n lag len cap f v = pyLX K A B n lag len f v
end
end Go.Proofs.Ytgiinciclnekjaa
