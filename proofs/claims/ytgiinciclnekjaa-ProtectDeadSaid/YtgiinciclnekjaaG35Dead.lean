/-
  The laws of a machine's step that ProtectDead asks for.
-/
import Derived.Test.YtgiinciclnekjaaG28Dead
import Derived.Test.YtgiinciclnekjaaG29Dead
import Derived.Test.YtgiinciclnekjaaG30Dead
import Derived.Test.YtgiinciclnekjaaG31Dead
import Derived.Test.YtgiinciclnekjaaG32Dead
import Derived.Test.YtgiinciclnekjaaG33Dead
import Derived.Test.YtgiinciclnekjaaG34Dead
import Derived.Test.YtgiinciclnekjaaG26Dead
import Derived.DataReads
import Derived.Deep.Slices
import Derived.Test.YtgiinciclnekjaaG27Dead
set_option linter.unusedSimpArgs false
set_option linter.unusedVariables false
namespace Go.Proofs.Ytgiinciclnekjaa
open Sx Go.RowKit
theorem six {p : Int} (hp : 0 ≤ p ∧ p < 6) : p = 0 ∨ p = 1 ∨ p = 2 ∨ p = 3 ∨ p = 4 ∨ p = 5 := by omega
section
variable {α : Type} (g : Int → α)
theorem pk0 : pick6 0 g = g 0 := rfl
theorem pk1 : pick6 1 g = g 1 := rfl
theorem pk2 : pick6 2 g = g 2 := rfl
theorem pk3 : pick6 3 g = g 3 := rfl
theorem pk4 : pick6 4 g = g 4 := rfl
theorem pk5 : pick6 5 g = g 5 := rfl
end
theorem four_1 {T : Tree FLeaf} {x : Int × Int × Int × Int} (h : four T = x) : nOf (stC T) 0 = x.1 := by subst h; rfl
theorem bads_1 {T : Tree FLeaf} {x : Bool × Bool × Bool} (h : bd3 T = x) : (bOf (stC T) 2, bOf (stC T) 3, bOf (stC T) 4) = x := by subst h; rfl
theorem acts_1 {T : Tree FLeaf} {x : Bool × Bool × Bool × Bool} (h : acts T = x) : (bOf (stA T) 0, bOf (stA T) 1, bOf (stA T) 2, bOf (stA T) 3) = x := by subst h; rfl
section
variable (n : Nat → Int) (b : Nat → Bool) (m : Nat → Int) (h : Nat → Bool) (s : Nat → Int)
/-- The new phase, where the signals are taken. -/
def phX (p : Int) : Int := pick6 p fun k => bif decide (k = 5) then 5 else bif decide (k = 4) then ph4 n b m h s else bif decide (k = 3) then ph3 n b m h s else bif decide (k = 2) then ph2 n b m h s else bif decide (k = 1) then ph1 n b m h s else ph0 n b m h s
theorem phX0 : phX n b m h s 0 = ph0 n b m h s := by unfold phX; exact pk0 _
theorem phX1 : phX n b m h s 1 = ph1 n b m h s := by unfold phX; exact pk1 _
theorem phX2 : phX n b m h s 2 = ph2 n b m h s := by unfold phX; exact pk2 _
theorem phX3 : phX n b m h s 3 = ph3 n b m h s := by unfold phX; exact pk3 _
theorem phX4 : phX n b m h s 4 = ph4 n b m h s := by unfold phX; exact pk4 _
theorem phX5 : phX n b m h s 5 = 5 := by unfold phX; exact pk5 _
def phN (p : Int) : Int := bif eS s then p else phX n b m h s p
theorem nwI0 {p : Int} (hp : 0 ≤ p ∧ p < 6) : nwI 0 p n b m h s = phN n b m h s p := by
  unfold nwI phN
  rcases six hp with rfl | rfl | rfl | rfl | rfl | rfl
  · rw [pk0, phX0]; exact four_1 (four0 n b m h s)
  · rw [pk1, phX1]; exact four_1 (four1 n b m h s)
  · rw [pk2, phX2]; exact four_1 (four2 n b m h s)
  · rw [pk3, phX3]; exact four_1 (four3 n b m h s)
  · rw [pk4, phX4]; exact four_1 (four4 n b m h s)
  · rw [pk5, phX5]; exact (four_1 (four5 n b m h s)).trans (by cases eS s <;> rfl)
theorem phX_six {p : Int} (hp : 0 ≤ p ∧ p < 6) : 0 ≤ phX n b m h s p ∧ phX n b m h s p < 6 := by
  rcases six hp with rfl | rfl | rfl | rfl | rfl | rfl
  · rw [phX0]
    unfold ph0
    cases (cW n b m h s != 0) <;> cases wcB h <;> cases h 29 <;> simp
  · rw [phX1]
    unfold ph1
    cases t1B n b m h s <;> cases lkB n s <;> cases prB n m <;> simp
  · rw [phX2]
    unfold ph2
    cases t2B n b m h s <;> simp
  · rw [phX3]
    unfold ph3
    cases loB n m <;> cases ccB n b h s <;> cases (ca3 n b m h s != 0) <;> simp
  · rw [phX4]
    unfold ph4
    cases fiB n b m h s <;> cases rsB n b m h s <;> simp
  · rw [phX5]; simp
theorem phN_six {p : Int} (hp : 0 ≤ p ∧ p < 6) : 0 ≤ phN n b m h s p ∧ phN n b m h s p < 6 := by
  unfold phN
  cases eS s with
  | true => exact hp
  | false => exact phX_six n b m h s hp
theorem phN_dead : phN n b m h s 5 = 5 := by
  unfold phN
  rw [phX5]
  cases eS s <;> rfl
/-- The act: told by the new phase. -/
def actX (X : Int) : Bool × Bool × Bool × Bool := (bif eS s then false else dr0 X, bif eS s then false else dr1 X, bif eS s then false else dr2 X, bif eS s then false else (X == 5))
theorem acts_at {p : Int} (hp : 0 ≤ p ∧ p < 6) : (acB 0 p n b m h s, acB 1 p n b m h s, acB 2 p n b m h s, acB 3 p n b m h s) = actX s (phX n b m h s p) := by
  unfold acB
  rcases six hp with rfl | rfl | rfl | rfl | rfl | rfl
  · rw [pk0, pk0, pk0, pk0, phX0]; exact acts_1 (acts0 n b m h s)
  · rw [pk1, pk1, pk1, pk1, phX1]; exact acts_1 (acts1 n b m h s)
  · rw [pk2, pk2, pk2, pk2, phX2]; exact acts_1 (acts2 n b m h s)
  · rw [pk3, pk3, pk3, pk3, phX3]; exact acts_1 (acts3 n b m h s)
  · rw [pk4, pk4, pk4, pk4, phX4]; exact acts_1 (acts4 n b m h s)
  · rw [pk5, pk5, pk5, pk5, phX5]
    refine (acts_1 (acts5 n b m h s)).trans ?_
    unfold actX
    rfl
theorem bads_at {p : Int} (hp : 0 ≤ p ∧ p < 6) : (nwB 2 p n b m h s, nwB 3 p n b m h s, nwB 4 p n b m h s) = (bdN n b m h s 0, bdN n b m h s 1, bdN n b m h s 2) := by
  unfold nwB
  rcases six hp with rfl | rfl | rfl | rfl | rfl | rfl
  · rw [pk0, pk0, pk0]; exact bads_1 (st_bad0 n b m h s)
  · rw [pk1, pk1, pk1]; exact bads_1 (st_bad1 n b m h s)
  · rw [pk2, pk2, pk2]; exact bads_1 (st_bad2 n b m h s)
  · rw [pk3, pk3, pk3]; exact bads_1 (st_bad3 n b m h s)
  · rw [pk4, pk4, pk4]; exact bads_1 (st_bad4 n b m h s)
  · rw [pk5, pk5, pk5]; exact bads_1 (st_bad5 n b m h s)
end
end Go.Proofs.Ytgiinciclnekjaa

/-
  A slice that is handed over: its cells.
-/
set_option linter.unusedSimpArgs false
set_option linter.unusedVariables false
namespace Go.Proofs.Ytgiinciclnekjaa
namespace Sx
open Go.RowKit

section
variable {P : Program} {tb : Tb} {H : Type} {enc : TypeId × Value → H} {w : World} {base : Nat} {spare : Nat → Bool} {held : Bool}
theorem cell_in {a : Addr} {v : Value} (h : w.cell? a = some v) : a.block < w.heap.size := by
  rcases Nat.lt_or_ge a.block w.heap.size with h1 | h1
  · exact h1
  · simp [World.cell?, Array.getElem?_eq_none h1] at h
/-- The cells of element j. -/
def elAt (f : Nat → Value) (sz j : Nat) : List Value := (List.range sz).map fun o => f (j * sz + o)
theorem open_rows (hT : TbOk P tb) {t te : TypeId} {i : TypeInfo} {ls : List Lf} {x : DataW H × List MemPlace} {v : Value} (ht : tb.und t = some (.slice te)) (hi : tb.info te = some i) (hl : leaves tb 20 te = some ls) (hsz : 0 < i.size) {n : Nat} (h : DataW.trod enc P w base spare held n t [v] = some x) :
    (∃ a c, v = .slice a 0 c) ∨ ∃ (b off len cap : Nat) (f : Nat → Value), v = .slice (some ⟨b, off, none⟩) len cap ∧ 0 < len ∧ len ≤ maxLen ∧ b < w.heap.size ∧ (∀ k, k < len * i.size → w.cell? ⟨b, off + k, none⟩ = some (f k)) ∧ ∀ j, j < len → All2 Lf.ok ls (elAt f i.size j) := by
  rcases Go.Deep.open_slice (hT.und ht) h with ⟨hcs, _⟩ | ⟨a, len, cap, m, n', D, Pl, hcs, hb, hle, hm, hmm, hx, hc⟩
  · simp only [List.cons.injEq, and_true] at hcs
    exact Or.inl ⟨none, 0, hcs⟩
  · simp only [List.cons.injEq, and_true] at hcs
    rcases Nat.eq_zero_or_pos len with h0 | h0
    · subst h0; exact Or.inl ⟨some a, cap, hcs⟩
    right
    have hlm : len ≤ m := by rw [hmm]; split <;> omega
    rw [cellsOf_info hT hi] at hc
    have each : ∀ j, j < len → ∃ cs', cs'.length = i.size ∧ (∀ o, o < i.size → w.cell? (a.add (j * i.size + o)) = cs'[o]?) ∧ All2 Lf.ok ls cs' := by
      intro j hj
      obtain ⟨cs', h1, h2⟩ := hc j (by omega)
      obtain ⟨_, q1, q2⟩ := World.cells?_some h1
      refine ⟨cs', q1, fun o ho => ?_, leaves_ok hT 20 te ls cs' n' _ hl h2⟩
      have := q2 o ho
      rwa [Go.Deep.add_add] at this
    have all : ∀ k, k < len * i.size → ∃ v, w.cell? (a.add k) = some v := by
      intro k hk
      obtain ⟨cs', q1, q2, _⟩ := each (k / i.size) (Nat.div_lt_of_lt_mul (by rw [Nat.mul_comm]; exact hk))
      have hmod : k % i.size < i.size := Nat.mod_lt _ hsz
      have := q2 (k % i.size) hmod
      rw [show k / i.size * i.size + k % i.size = k by rw [Nat.mul_comm]; exact Nat.div_add_mod k i.size] at this
      rw [this]
      exact ⟨_, List.getElem?_eq_getElem (by omega)⟩
    obtain ⟨v0, hv0⟩ := all 0 (Nat.mul_pos h0 hsz)
    obtain ⟨b, off, spot⟩ := a
    have hspot : spot = none := by simpa [Addr.add] using World.cell?_spot hv0
    subst hspot
    have hadd : ∀ j, ((⟨b, off, none⟩ : Addr).add j) = ⟨b, off + j, none⟩ := fun j => by
      unfold Addr.add
      by_cases e : j = 0
      · subst e; simp
      · simp [e]
    refine ⟨b, off, len, cap, fun k => (w.cell? ⟨b, off + k, none⟩).getD undef, hcs, h0, by omega, ?_, fun k hk => ?_, fun j hj => ?_⟩
    · rw [hadd] at hv0; exact cell_in hv0
    · obtain ⟨v, hv⟩ := all k hk
      rw [hadd] at hv
      show _ = some ((w.cell? ⟨b, off + k, none⟩).getD undef)
      rw [hv]; rfl
    · obtain ⟨cs', q1, q2, q3⟩ := each j hj
      have : elAt (fun k => (w.cell? ⟨b, off + k, none⟩).getD undef) i.size j = cs' := by
        apply List.ext_getElem?
        intro o
        unfold elAt
        by_cases ho : o < i.size
        · rw [List.getElem?_map, List.getElem?_range ho]
          have h2 := q2 o ho
          rw [hadd] at h2
          rw [Option.map_some]
          show some ((w.cell? ⟨b, off + (j * i.size + o), none⟩).getD undef) = _
          rw [h2, List.getElem?_eq_getElem (by omega)]
          rfl
        · rw [List.getElem?_eq_none (by simp; omega), List.getElem?_eq_none (by omega)]
      rw [this]; exact q3
theorem all2_isV : ∀ {ls : List Lf} {cs : List Value}, All2 Lf.ok ls cs → ∀ o, o < ls.length → (lfAt ls o).isV (cs.getD o undef) = true
  | _, _, .nil, o, h => by simp at h
  | l :: ls, c :: cs, .cons hc h, o, ho => by
    cases o with
    | zero =>
      show l.isV c = true
      cases l with
      | b => obtain ⟨b, rfl⟩ := hc; rfl
      | i k => obtain ⟨n, rfl, _⟩ := hc; simp [Lf.isV]
    | succ o =>
      have := all2_isV h o (by simpa using ho)
      simpa [lfAt] using this
/-- What is demanded where an element is read. -/
theorem rows_isV {f : Nat → Value} {ls : List Lf} {sz j : Nat} (h : All2 Lf.ok ls (elAt f sz j)) (hsz : ls.length = sz) : ((List.range sz).all fun o => (lfAt ls o).isV (f (0 + j * sz + o))) = true := by
  rw [List.all_eq_true]
  intro o ho
  have ho' : o < sz := List.mem_range.1 ho
  have := all2_isV h o (by omega)
  unfold elAt at this
  rw [List.getD_eq_getElem?_getD, List.getElem?_map, List.getElem?_range ho'] at this
  rw [Nat.zero_add]
  simpa using this
end
end Sx
end Go.Proofs.Ytgiinciclnekjaa

/-
  The law ProtectDead: whatever the signals, true.
-/
set_option linter.unusedSimpArgs false
set_option linter.unusedVariables false
namespace Go.Proofs.Ytgiinciclnekjaa
open Sx Go.RowKit
theorem chk_ladder (n : Nat → Int) : chkR n = 0 ∨ chkR n = 2 := by
  unfold chkR
  rw [ladder_eq, ladder_eq]
  split
  · exact Or.inr rfl
  · split
    · exact Or.inr rfl
    · cases lastG n
      · exact Or.inl rfl
      · exact Or.inr rfl
/-- Where one way of a tree is told: its tests, its end. -/
theorem selW_map {α β : Type} {p : List Bool} {T : Tree α} {g : List Bool × α → β} {z : β} (h : (selW p T).map g = some z) : ∃ cs x, selW p T = some (cs, x) ∧ g (cs, x) = z := by
  obtain ⟨r, h1, h2⟩ := Option.map_eq_some_iff.1 h
  obtain ⟨cs, x⟩ := r
  exact ⟨cs, x, h1, h2⟩
theorem wayR_map {d : List FamP} {σ I : St} {o : Out} {T : Tree Leaf} {p : List Bool} {β : Type} {g : List Bool × St → β} {z : β} (h : (wayR d σ I o T p).map g = some z) : ∃ cs y, wayR d σ I o T p = some (cs, y) ∧ g (cs, y) = z := by
  obtain ⟨r, h1, h2⟩ := Option.map_eq_some_iff.1 h
  obtain ⟨cs, x⟩ := r
  exact ⟨cs, x, h1, h2⟩
theorem drvC_act {X Y : Int} {s : Nat → Int} {a b c e : Bool} (h : (a, b, c, e) = actX s X) (hY : eS s = false → Y = X) : drvC Y a b c = false := by
  unfold actX at h
  simp only [Prod.mk.injEq] at h
  obtain ⟨rfl, rfl, rfl, _⟩ := h
  unfold drvC
  cases he : eS s with
  | true => simp
  | false =>
    rw [hY he]
    by_cases h1 : X = 1
    · subst h1; rfl
    · by_cases h2 : X = 2
      · subst h2; rfl
      · simp [h1, h2, dr0, dr1, dr2]
theorem dead_ok {p : Int} (hp : 0 ≤ p ∧ p < 6) (n : Nat → Int) (b : Nat → Bool) (m : Nat → Int) (h : Nat → Bool) (s : Nat → Int) : deadC p (nwI 0 p n b m h s) (acB 0 p n b m h s) (acB 1 p n b m h s) (acB 2 p n b m h s) = false := by
  have hd : drvC (nwI 0 p n b m h s) (acB 0 p n b m h s) (acB 1 p n b m h s) (acB 2 p n b m h s) = false := by
    rw [nwI0 n b m h s hp]
    exact drvC_act (acts_at n b m h s hp) fun he => by unfold phN; rw [he]; rfl
  unfold deadC
  rw [hd]
  by_cases h5 : p = 5
  · subst h5
    rw [nwI0 n b m h s hp, phN_dead]; rfl
  · have : (p == 5) = false := by simp [h5]
    rw [this]; rfl
theorem stay_ok {p : Int} (hp : 0 ≤ p ∧ p < 6) (n : Nat → Int) (b : Nat → Bool) (m : Nat → Int) (h : Nat → Bool) (s : Nat → Int) :
    (bif b 1 then !nwB 2 p n b m h s else false) = false ∧ (bif b 2 then !nwB 3 p n b m h s else false) = false ∧ (bif b 3 then !nwB 4 p n b m h s else false) = false := by
  have hb := bads_at n b m h s hp
  simp only [Prod.mk.injEq] at hb
  obtain ⟨h1, h2, h3⟩ := hb
  rw [h1, h2, h3]
  refine ⟨?_, ?_, ?_⟩
  · cases hb : b 1 with
    | false => rfl
    | true => rw [bdN_stays (i := 0) hb]; rfl
  · cases hb : b 2 with
    | false => rfl
    | true => rw [bdN_stays (i := 1) hb]; rfl
  · cases hb : b 3 with
    | false => rfl
    | true => rw [bdN_stays (i := 2) hb]; rfl
theorem lg_iff {len : Nat} {i : Int} : lgB len i = true ↔ i < (len : Int) ∧ i < 100 := by
  unfold lgB
  by_cases h1 : i < (len : Int) <;> by_cases h2 : i < 100 <;> simp [h1, h2]
/-- The end of what stands behind the loop, and of what never comes to it. -/
def DdEnd (y : SLeaf) : Prop := (y.1 = .out .normal ∨ y.1 = .out .ret) ∧ ∃ l, evRes tbl y.2 (fnOf 3).results.toList = some (.one (.b true l))
theorem caS_seg {N cf fuel : Nat} {stops : List Nat} {k : List Kt} {o : Out} {σ : St} {y : SLeaf} {T : Tree SLeaf} (hE : T = evS tbl wr5 caS N cf stops fuel k o σ) (hA : AtG T y) : SegOk Try.prog N σ k o y := (seg_evS tbl_ok tbl_any caS_ok hE hA).1
theorem ddR_eq (n : Nat → Int) (len cap : Nat) (f : Nat → Value) (v : FVal) : ddR n len cap f v = evC tbl wr5 caS (fnOf 3).ntmps [] 300 (ddS n len cap f).body (ddI n len cap f v) := by
  unfold ddR; rfl
theorem ddX_eq (n : Nat → Int) (len cap : Nat) (f : Nat → Value) (v : FVal) : ddX n len cap f v = evS tbl wr5 caS (fnOf 3).ntmps 300 [0] 300 (ddK n len cap f) .normal (ddI n len cap f v) := by
  unfold ddX; rfl
theorem ddT_eq (n : Nat → Int) (len cap : Nat) (f : Nat → Value) : ddT n len cap f = evS tbl wr5 caS (fnOf 3).ntmps 300 [0] 300 [.code (cdOf 3)] .normal (enterSt (withVr (stO 44 (len * 31) f) (evVr wr5 3 300 (fnOf 3))) [.agg (symL (fun _ => false) n 0 lsG), .one (.slc 0 (.lit 0) (.opq len) (.opq cap))]) := by
  unfold ddT upT; rfl
theorem dd_round (n : Nat → Int) (len cap : Nat) (f : Nat → Value) (hf : ∀ j, j < len → All2 Lf.ok lsS (elAt f 31 j)) (v : FVal) (hv : 0 ≤ v.i 0 ∧ v.i 0 ≤ 100 ∧ 0 ≤ v.i 1 ∧ v.i 1 < 6) :
    ∃ o y, SegOk Try.prog (fnOf 3).ntmps (ddI n len cap f v) [.code (ddS n len cap f).body] .normal (.out o, y) ∧ Ext (ddI n len cap f v) y ∧ okF ddD (ddS n len cap f).st y = true ∧ (newL (ddI n len cap f v) y).all (okWf ddD (ddS n len cap f).st) = true ∧
      ((o = .normal ∧ (0 ≤ (rvV ddD y).i 0 ∧ (rvV ddD y).i 0 ≤ 100 ∧ 0 ≤ (rvV ddD y).i 1 ∧ (rvV ddD y).i 1 < 6) ∧ (100 - (rvV ddD y).i 0).toNat < (100 - v.i 0).toNat) ∨ (o = .exit 0 ∧ True)) := by
  obtain ⟨h1, h2, h3, h4⟩ := hv
  cases hl : lgB len (v.i 0) with
  | false =>
    obtain ⟨cs, y, hw, hg⟩ := wayR_map (dd_out n len cap f v)
    obtain ⟨w1, w2, w3⟩ := wayR_at hw
    have hcs : ∀ c ∈ cs, c = true := by
      simp only at hg
      rw [hg]
      intro c hc
      simp only [List.mem_cons, List.not_mem_nil, or_false] at hc
      rw [hc, hl]; rfl
    obtain ⟨s1, s2⟩ := seg_evC tbl_ok tbl_any caS_ok (ddR_eq n len cap f v) (w1 hcs)
    exact ⟨.exit 0, y, s1, s2, w2, w3, Or.inr ⟨rfl, trivial⟩⟩
  | true =>
    obtain ⟨g1, g2⟩ := lg_iff.1 hl
    obtain ⟨cs, y, hw, hg⟩ := wayR_map (dd_go n len cap f v)
    obtain ⟨w1, w2, w3⟩ := wayR_at hw
    simp only [Prod.mk.injEq] at hg
    obtain ⟨k1, k2, k3⟩ := hg
    obtain ⟨i, hi⟩ := Int.eq_ofNat_of_zero_le h1
    have hti : (v.i 0).toNat = i := by rw [hi]; rfl
    have hil : i < len := by omega
    have hdead := dead_ok ⟨h3, h4⟩ (nOf (gsL n)) (bOf (csL v)) (nOf (csL v)) (bOf (sgL f (v.i 0))) (nOf (sgL f (v.i 0)))
    obtain ⟨b1, b2, b3⟩ := stay_ok ⟨h3, h4⟩ (nOf (gsL n)) (bOf (csL v)) (nOf (csL v)) (bOf (sgL f (v.i 0))) (nOf (sgL f (v.i 0)))
    have hcs : ∀ c ∈ cs, c = true := by
      rw [k1]
      intro c hc
      unfold goL at hc
      simp only [List.mem_cons, List.not_mem_nil, or_false] at hc
      rcases hc with rfl | rfl | rfl | rfl | rfl | rfl | rfl | rfl | rfl
      · exact hl
      · exact decide_eq_true ⟨h1, g1⟩
      · refine decide_eq_true ?_
        rw [hti]
        have := Nat.mul_le_mul_right 31 (show i + 1 ≤ len from hil)
        omega
      · rw [hti]; exact rows_isV (hf i hil) rfl
      · exact decide_eq_true ⟨h3, h4⟩
      · exact congrArg (!·) hdead
      · exact congrArg (!·) b1
      · exact congrArg (!·) b2
      · exact congrArg (!·) b3
    obtain ⟨s1, s2⟩ := seg_evC tbl_ok tbl_any caS_ok (ddR_eq n len cap f v) (w1 hcs)
    have hwr : IntKind.i64.wrap (v.i 0 + 1) = v.i 0 + 1 := Go.IntWalk.i64_in _ ⟨by omega, by omega⟩
    have e0 : (rvV ddD y).i 0 = v.i 0 + 1 := by show rvI ddD y 0 = _; rw [k2, hwr]
    have e1 : (rvV ddD y).i 1 = rI n v f 0 := k3
    have e2 := phN_six (nOf (gsL n)) (bOf (csL v)) (nOf (csL v)) (bOf (sgL f (v.i 0))) (nOf (sgL f (v.i 0))) ⟨h3, h4⟩
    rw [← nwI0 _ _ _ _ _ ⟨h3, h4⟩] at e2
    refine ⟨.normal, y, s1, s2, w2, w3, Or.inl ⟨rfl, ⟨by omega, by omega, by rw [e1]; exact e2.1, by rw [e1]; exact e2.2⟩, by omega⟩⟩
theorem dd_tail (n : Nat → Int) (len cap : Nat) (f : Nat → Value) (v : FVal) : SegTo Try.prog (fnOf 3).ntmps (ddI n len cap f v) (ddK n len cap f) .normal DdEnd := by
  obtain ⟨cs, x, hw, hg⟩ := selW_map (dd_end n len cap f v)
  simp only [Prod.mk.injEq] at hg
  obtain ⟨q1, q2⟩ := hg
  have hat := selW_G hw (by rw [q1]; intro c hc; cases hc)
  exact (caS_seg (ddX_eq n len cap f v) hat).to (retB_at q2)
theorem dd_seg (n : Nat → Int) (len cap : Nat) (f : Nat → Value) (hf : ∀ j, j < len → All2 Lf.ok lsS (elAt f 31 j)) :
    SegTo Try.prog (fnOf 3).ntmps (enterSt (withVr (stO 44 (len * 31) f) (evVr wr5 3 300 (fnOf 3))) [.agg (symL (fun _ => false) n 0 lsG), .one (.slc 0 (.lit 0) (.opq len) (.opq cap))]) [.code (cdOf 3)] .normal DdEnd := by
  cases hk : (chkR n != 0) with
  | true =>
    obtain ⟨cs, x, hw, hg⟩ := selW_map (dd_bad n len cap f)
    simp only [Prod.mk.injEq] at hg
    obtain ⟨k1, k2⟩ := hg
    have h2 : chkR n = 2 := by
      rcases chk_ladder n with h | h
      · rw [h] at hk; cases hk
      · exact h
    rw [h2] at k2
    have hat := selW_G hw (by
      rw [k1]
      intro c hc
      simp only [List.mem_cons, List.not_mem_nil, or_false] at hc
      rw [hc, hk])
    exact (caS_seg (ddT_eq n len cap f) hat).to (retB_at k2)
  | false =>
    obtain ⟨cs, x, hw, hg⟩ := selW_map (dd_up n len cap f)
    simp only [Prod.mk.injEq] at hg
    obtain ⟨k1, k2, k3⟩ := hg
    have hat := selW_G hw (by
      rw [k1]
      intro c hc
      simp only [List.mem_cons, List.not_mem_nil, or_false] at hc
      rcases hc with rfl | rfl <;> rw [hk] <;> rfl)
    obtain ⟨S, hS⟩ := Option.isSome_iff_exists.1 k2
    have hSe : ddS n len cap f = S := by unfold ddS; rw [hw]; simp only [Option.map_some, Option.bind_some, hS, Option.getD_some]
    have hx := stpOf_at hS
    rw [← hSe, k3] at hx
    have hK : (ddS n len cap f).rest = ddK n len cap f := by unfold ddK; rfl
    rw [hK] at hx
    refine (caS_seg (ddT_eq n len cap f) hat).then_ hx ?_
    refine seg_block ?_
    have ent := dd_ent n len cap f
    simp only [Prod.mk.injEq] at ent
    obtain ⟨e1, e2, e3⟩ := ent
    have h0 : 0 ≤ (rvV ddD (ddS n len cap f).st).i 0 ∧ (rvV ddD (ddS n len cap f).st).i 0 ≤ 100 ∧ 0 ≤ (rvV ddD (ddS n len cap f).st).i 1 ∧ (rvV ddD (ddS n len cap f).st).i 1 < 6 := by
      rw [rvV_i, rvV_i, e2, e3]
      exact ⟨by decide, by decide, by decide, by decide⟩
    have hI : ∀ v, (ddS n len cap f).st.apps (famW v 0 ddD) = some (ddI n len cap f v) := fun v => by
      obtain ⟨I, hI⟩ := Option.isSome_iff_exists.1 (dd_fam n len cap f v)
      unfold ddI
      rw [hI, Option.getD_some]
    exact loop_then (k := 0) (rest := (ddK n len cap f)) (body := (ddS n len cap f).body) ddD (σ := (ddS n len cap f).st) (ddI n len cap f) hI e1 (fun v => 0 ≤ v.i 0 ∧ v.i 0 ≤ 100 ∧ 0 ≤ v.i 1 ∧ v.i 1 < 6) (fun _ => True) (fun v => (100 - v.i 0).toNat) h0 (fun v hv => dd_round n len cap f hf v hv) (fun v _ => dd_tail n len cap f v)
end Go.Proofs.Ytgiinciclnekjaa
