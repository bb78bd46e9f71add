/-
  The package-level variables of which something is known: the powers of 10, two errors, a length.
-/
import Derived.WalkKit
import Derived.Test.YtolnbblikfpnbaaDoorRows
import Derived.Shelf.Strconv.Itoa4
import Derived.KernelRfl
import Derived.ChangeSlices
import Derived.OpenShut
import Derived.ChangeSame
import Derived.ProofKit
import Derived.LaidSub
import Derived.Lay
import Derived.MakeChecks
import Derived.LaidLaws
import Derived.HandedShaped
import Derived.Shelf.Vars
import Derived.WalkSpells
import Derived.WalkLawsBesides
import Derived.Deep.QuietTactic
import Derived.BigQuiet
import Derived.Lib.Hide
import Derived.Deep.RegionHeld3
set_option linter.unusedSimpArgs false
set_option linter.unusedVariables false
namespace Go.Proofs.YtolnbblikfpnbaaDoor
namespace Sx
open Go.RowKit
/-- The variables' names: the third, the fourth and the fifth one of the row's list. -/
def powN : String := ((Rows.quantityTextsRow.laid[2]?).map (·.1)).getD ""
def rngN : String := ((Rows.quantityTextsRow.laid[3]?).map (·.1)).getD ""
def synN : String := ((Rows.quantityTextsRow.laid[4]?).map (·.1)).getD ""
def maxN : String := (Rows.quantityTextsRow.named[3]?).getD ""
noncomputable def powG : Nat := (Tryd.prog.globalNamed powN).getD 0
noncomputable def rngG : Nat := (Tryd.prog.globalNamed rngN).getD 0
noncomputable def synG : Nat := (Tryd.prog.globalNamed synN).getD 0
noncomputable def maxG : Nat := (Tryd.prog.globalNamed maxN).getD 0
theorem powG_is : Tryd.prog.globalNamed powN = some powG := by kernel_rfl
theorem rngG_is : Tryd.prog.globalNamed rngN = some rngG := by kernel_rfl
theorem synG_is : Tryd.prog.globalNamed synN = some synG := by kernel_rfl
noncomputable def Gs : List Nat := [powG, rngG, synG, maxG]
/-- The variable holds an error. -/
def ErrAt (w : World) (n : String) : Prop := ∃ t v, w.var? Tryd.prog n = some #[.iface t v]
/-- The variable holds a number. -/
def MaxAt (w : World) : Prop := ∃ m, w.cell? ⟨maxG, 0, none⟩ = some (.int .i64 m)
def GlobP (w : World) : Prop := Lib.TabIs Tryd.prog w powN .u64 Lib.pow10Tab ∧ ErrAt w rngN ∧ ErrAt w synN ∧ MaxAt w
theorem GlobP.tab {w : World} (h : GlobP w) : Lib.TabIs Tryd.prog w powN .u64 Lib.pow10Tab := h.1
theorem GlobP.max {w : World} (h : GlobP w) : MaxAt w := h.2.2.2
theorem var_kept {w w' : World} {n : String} {g : Nat} {cs : Array Value} (hg : Tryd.prog.globalNamed n = some g) (h : w.var? Tryd.prog n = some cs) (k : w'.heap[g]? = w.heap[g]?) : w'.var? Tryd.prog n = some cs := by
  unfold World.var? at h ⊢
  rw [hg] at h ⊢
  simp only [Option.bind_some] at h ⊢
  rw [k]; exact h
theorem var_lt {w : World} {n : String} {g : Nat} {cs : Array Value} (hg : Tryd.prog.globalNamed n = some g) (h : w.var? Tryd.prog n = some cs) : g < w.heap.size := by
  unfold World.var? at h
  rw [hg] at h
  simp only [Option.bind_some] at h
  rcases Nat.lt_or_ge g w.heap.size with h1 | h1
  · exact h1
  · rw [Array.getElem?_eq_none h1] at h; cases h
theorem GlobP.kept {w w' : World} (h : GlobP w) (k : ∀ g ∈ Gs, w'.heap[g]? = w.heap[g]?) : GlobP w' := by
  obtain ⟨h1, ⟨t2, v2, h2⟩, ⟨t3, v3, h3⟩, ⟨m, h4⟩⟩ := h
  have k1 := k powG (by unfold Gs; simp)
  have k2 := k rngG (by unfold Gs; simp)
  have k3 := k synG (by unfold Gs; simp)
  have k4 := k maxG (by unfold Gs; simp)
  exact ⟨var_kept powG_is h1 k1, ⟨t2, v2, var_kept rngG_is h2 k2⟩, ⟨t3, v3, var_kept synG_is h3 k3⟩, ⟨m, (World.cell?_of_block (w := w) (a := ⟨maxG, 0, none⟩) k4).trans h4⟩⟩
/-- They hold what the program's text lays; they lie in memory that may not be written. -/
def GlobW (M : Nat → Prop) (w : World) : Prop := GlobP w ∧ ∀ g ∈ Gs, ¬ M g ∧ g < w.heap.size
def Glob0 (w : World) : Prop := GlobW (fun k => w.heap.size ≤ k) w
theorem glob0_of {w : World} (h : GlobP w) : Glob0 w := ⟨h, fun g hg => by
  obtain ⟨h1, ⟨t2, v2, h2⟩, ⟨t3, v3, h3⟩, ⟨m, h4⟩⟩ := h
  have hlt : g < w.heap.size := by
    unfold Gs at hg
    simp only [List.mem_cons, List.not_mem_nil, or_false] at hg
    rcases hg with rfl | rfl | rfl | rfl
    · exact var_lt powG_is h1
    · exact var_lt rngG_is h2
    · exact var_lt synG_is h3
    · exact World.block_lt_of_cell? _ _ h4
  exact ⟨by omega, hlt⟩⟩
theorem gstep {w w' : World} (h : Glob0 w) (hb : Below w.heap.size w w') : Glob0 w' :=
  ⟨h.1.kept fun g hg => hb.block g (h.2 g hg).2, fun g hg => ⟨by have := (h.2 g hg).2; have := hb.size; omega, Nat.lt_of_lt_of_le (h.2 g hg).2 hb.size⟩⟩
end Sx
end Go.Proofs.YtolnbblikfpnbaaDoor

/-
  From a row that lists variables to the walk: the powers of 10, two errors, and the length that the world's shape gives.
-/
set_option linter.unusedSimpArgs false
set_option linter.unusedVariables false
namespace Go.Proofs.YtolnbblikfpnbaaDoor
open Go.ChangeShapes Go.WideShapes Go.RowKit

theorem handed_laid_shaped {H : Type} {enc : TypeId × Value → H} {a : Assume} {C : Checked} {os : Os} {f : FuncId} {fn : Func} {s : ChangeSpec} {conds : List PathCond} {apart fresh handsOn again : Bool} {X : World → Array Value → Prop}
    (hX : ∀ (w w' : World) (args : Array Value), w.heap = w'.heap → X w args → X w' args)
    (own : ownKnob C.prog.godebug = none) (started : os.Started) (noInit : C.prog.inits.idxOf? f = none) (hfn : C.prog.funcs[f]? = some fn)
    (witness : ∃ (w : World) (tape : Tape) (i : Input), w.os = os ∧ (w.forCall tape i).Shaped C.prog ∧ i.vars = [] ∧ Input.okWide C.prog (w.forCall tape i) .any w.heap.size f i ∧
      ((s.pre enc C.prog fn conds apart (w.forCall tape i).memory i.args ∧ X (w.forCall tape i).memory i.args) ∧ sizedMet enc C.prog fn (OpenSpec.ofChange s) apart (w.forCall tape i).memory i.args) ∧ a.holds C.prog (lone (Frame.enter C.prog f i.args .normal) [] (w.forCall tape i)))
    (contract : ∀ (W : World) (base : Nat) (args : Array Value) (ds gs : List (DataW H)) (before : List MemPlace),
      (∀ (j : Nat) t v, fn.params[j]? = some t → args[j]? = some v → Value.okWide C.prog W .any base t v) →
      DataW.Whole enc C.prog fn.params.toList s.vars apart W args.toList ds gs before →
      conds.all (PathCond.test C.prog ⟨fn.params.toList, ds, s.plain.varTypes C.prog, gs⟩) = true →
      (DataW.weightsEach C.prog (fn.params.toList ++ s.plain.varTypes C.prog) (ds ++ gs)).all (· ≤ reachBytes) = true → X W args → W.ShapedOpen C.prog →
      a.holds C.prog (lone (Frame.enter C.prog f args .normal) [] W) →
      Calls C.prog f args W fun e W' => ∃ v, e = .returned v ∧ s.post enc C.prog fn apart fresh handsOn again W args v W') :
    ReturnsInHanded a C os f .any (fun w args => (s.pre enc C.prog fn conds apart w args ∧ X w args) ∧ sizedMet enc C.prog fn (OpenSpec.ofChange s) apart w args) (s.post enc C.prog fn apart fresh handsOn again) := by
  refine returnsInHanded_of_calls own started noInit witness ?_
  intro w tape i _ hsh _ hok hpre hholds
  obtain ⟨_, _, _, fn', hfn', _, _, _, _, hval⟩ := hok
  have e : fn' = fn := Option.some.inj (hfn'.symm.trans hfn)
  subst e
  obtain ⟨⟨⟨ds, gs, before, hw, hc⟩, hx⟩, hz⟩ := hpre
  have hw' := DataW.Whole.of_heap (w' := w.forCall tape i) (by rfl) hw
  refine (contract (w.forCall tape i) w.heap.size i.args ds gs before hval hw' hc (hz.weights hw) (hX _ _ _ (by rfl) hx) hsh hholds).mono fun e W' ⟨v, he, hp⟩ => ?_
  subst he
  exact ChangeSpec.post_blind hp

theorem errAt_of_laid {n nm : String} {d : DataW Unit} {W : World} {g : Nat} {ti : TypeId} {ms : Array (String × TypeId)}
    (h : laidMet Tryd.prog [(n, .iface nm d)] W) (hg : Tryd.prog.globalNamed n = some g) (ht : (Tryd.prog.globals[g]?).map (·.type) = some ti) (hi : Tryd.prog.underlying ti = some (.interface ms)) : Sx.ErrAt W n := by
  obtain ⟨ps, ⟨g0, t0, cs0, f0, p0, q0, hg0, ht0, hv0, hd0, _, e0⟩, _, hrows⟩ := h
  obtain rfl := Option.some.inj (hg.symm.trans hg0)
  obtain rfl := Option.some.inj (ht.symm.trans ht0)
  obtain ⟨l0⟩ := cs0
  obtain ⟨f1, u, v, e, hn, h1⟩ := iface_of_trod hi hd0
  have e' : l0 = [.iface u v] := e
  subst e'
  exact ⟨u, v, hv0⟩
/-- A list of one variable, which holds an error. -/
def isIf : List (String × DataW Unit) → String → Bool
  | [(x, .iface _ _)], n => x == n
  | _, _ => false
theorem isIf_is {l : List (String × DataW Unit)} {n : String} (h : isIf l n = true) : ∃ m d, l = [(n, .iface m d)] := by
  unfold isIf at h
  split at h
  · have e := eq_of_beq h
    subst e
    exact ⟨_, _, rfl⟩
  · cases h
theorem max_of_shaped {W : World} (h : W.ShapedOpen Tryd.prog) : Sx.MaxAt W :=
  Go.Proofs.cell_of_shapedOpen_int (t := 3) (k := .i64) (zero := #[.int .i64 0]) h (of_decide_eq_true (by kernel_rfl)) (by kernel_rfl) rfl (by kernel_rfl) (by kernel_rfl) Tryd.underlying3
theorem glob_of_laid {l : List (String × DataW Unit)} (hd : (l.all fun x => x.2.handleName?.isNone) = true)
    (hl : l.filter (fun x => x.1 == Sx.powN) = [(Sx.powN, Lib.tabData .u64 Lib.pow10Tab)]) (hl2 : isIf (l.filter (fun x => x.1 == Sx.rngN)) Sx.rngN = true) (hl3 : isIf (l.filter (fun x => x.1 == Sx.synN)) Sx.synN = true)
    {W : World} (h : laidMetH Tryd.prog l W) (hS : W.ShapedOpen Tryd.prog) : Sx.Glob0 W := by
  obtain ⟨m2, d2, hl2⟩ := isIf_is hl2
  obtain ⟨m3, d3, hl3⟩ := isIf_is hl3
  rw [MakeChecks.laidMetH_plain _ _ _ hd] at h
  have h1 := h.filter (fun x => x.1 == Sx.powN)
  rw [hl] at h1
  have h2 := h.filter (fun x => x.1 == Sx.rngN)
  rw [hl2] at h2
  have h3 := h.filter (fun x => x.1 == Sx.synN)
  rw [hl3] at h3
  exact Sx.glob0_of ⟨Lib.tabIs_of_head (t := 115) (e := 94) (n := 20) Sx.powG_is (by kernel_rfl) Tryd.underlying115 Tryd.underlying94 (by kernel_rfl) (by kernel_rfl) h1,
    errAt_of_laid h2 Sx.rngG_is (by kernel_rfl) Tryd.underlying64, errAt_of_laid h3 Sx.synG_is (by kernel_rfl) Tryd.underlying64, max_of_shaped hS⟩
end Go.Proofs.YtolnbblikfpnbaaDoor

/-
  Small facts on worlds that every walk of this claim uses.
-/
set_option linter.unusedSimpArgs false
set_option linter.unusedVariables false
namespace Go.Proofs.YtolnbblikfpnbaaDoor
open Go.RowKit

/-! Contracts that leave the world alone, in a region that draws its order (behind a draw, or behind two). -/
theorem quiet_left {P : Program} {f : FuncId} {args : Array Value} {w : World} {n : Nat} {v : Value}
    (h : Calls P f args (w.drewN n) fun e w' => e = .returned v ∧ w.drewN n = w') : Calls P f args (w.drewN n) fun e w'' => e = .returned v ∧ ∃ m, w'' = w.drewN m :=
  h.mono fun _ _ ⟨he, hm⟩ => ⟨he, n, hm.symm⟩
theorem quiet_add_left {P : Program} {f : FuncId} {args : Array Value} {w : World} {a n : Nat} {v : Value}
    (h : Calls P f args (w.drewN (a + n)) fun e w' => e = .returned v ∧ w.drewN (a + n) = w') :
    Calls P f args (w.drewN (a + n)) fun e w'' => e = .returned v ∧ ∃ m, w'' = w.drewN (a + m) :=
  h.mono fun _ _ ⟨he, hm⟩ => ⟨he, n, hm.symm⟩

/-! What a call leaves of memory. -/
theorem bcell {W w1 : World} (hb : Below W.heap.size W w1) : (∀ b o, b < W.heap.size → w1.cell? ⟨b, o, none⟩ = W.cell? ⟨b, o, none⟩) ∧ (∀ b o, b < W.heap.size → w1.frozen? ⟨b, o, none⟩ = W.frozen? ⟨b, o, none⟩) :=
  ⟨fun b o h => hb.cell (p := ⟨b, o, none⟩) h, fun b o h => hb.frozen (p := ⟨b, o, none⟩) h⟩
theorem bAlloc {w b : World} (h : Below w.heap.size w b) (o : Obj) : Below w.heap.size w (b.alloc o) := h.alloc h.size o
theorem bStep {w b c : World} (h : Below w.heap.size w b) (k : Below b.heap.size b c) : Below w.heap.size w c := h.trans (k.mono h.size)
theorem bSet {w b : World} (h : Below w.heap.size w b) {p : Addr} (hp : w.heap.size ≤ p.block) (v : Value) : Below w.heap.size w (b.setCell p v) := h.setCell hp v
theorem bDrew {B : Nat} {w b : World} (h : Below B w b) : Below B w b.drew := h.drew
theorem bDrewN {B : Nat} {w b : World} {n : Nat} (h : Below B w b) : Below B w (b.drewN n) := ⟨h.os, h.tape, h.output, h.size, h.block⟩

/-! A block that is known whole: behind a store, a new block, a draw. -/
theorem blk_set {w : World} {b o : Nat} {v : Value} {cs : Array Value} {t : TypeId} {fr : Nat × Nat} (h : w.heap[b]? = some (.cells cs t fr)) :
    (w.setCell ⟨b, o, none⟩ v).heap[b]? = some (.cells (cs.setIfInBounds o v) t fr) := by
  simp [World.setCell, Array.getElem?_modify, h]
theorem blk_set_other {w : World} {b : Nat} {p : Addr} {v : Value} {x : Obj} (h : w.heap[b]? = some x) (hne : b ≠ p.block) : (w.setCell p v).heap[b]? = some x :=
  (Below.heap_setCell w p v b hne).trans h
theorem blk_lt {w : World} {b : Nat} {x : Obj} (h : w.heap[b]? = some x) : b < w.heap.size := by
  rcases Nat.lt_or_ge b w.heap.size with h1 | h1
  · exact h1
  · rw [Array.getElem?_eq_none h1] at h; cases h
theorem blk_alloc {w : World} {b : Nat} {o x : Obj} (h : w.heap[b]? = some x) : (w.alloc o).heap[b]? = some x :=
  (Below.heap_alloc w o b (blk_lt h)).trans h
theorem blk_new (w : World) (o : Obj) : (w.alloc o).heap[w.heap.size]? = some o := by
  show (w.heap.push o)[w.heap.size]? = _
  simp
theorem blk_below {B : Nat} {w w1 : World} {b : Nat} {x : Obj} (h : w.heap[b]? = some x) (hb : Below B w w1) (hB : b < B) : w1.heap[b]? = some x := (hb.block b hB).trans h
theorem blk_step {w w1 : World} {b : Nat} {x : Obj} (h : w.heap[b]? = some x) (hb : Below w.heap.size w w1) : w1.heap[b]? = some x := blk_below h hb (blk_lt h)
theorem blk_cell {w : World} {b o : Nat} {cs : Array Value} {t : TypeId} {fr : Nat × Nat} {v : Value} (h : w.heap[b]? = some (.cells cs t fr)) (hv : cs[o]? = some v) : w.cell? ⟨b, o, none⟩ = some v := by
  simp [World.cell?, h, hv]
theorem blk_free {w : World} {b o : Nat} {cs : Array Value} {t : TypeId} (h : w.heap[b]? = some (.cells cs t (0, 0))) : w.frozen? ⟨b, o, none⟩ = false := by
  simp [World.frozen?, h]

/-! Facts on cells that a region keeps: behind a call, a new block, a draw. -/
theorem cell_lt {W : World} {p : Addr} {v : Value} (h : W.cell? p = some v) : p.block < W.heap.size := by
  rcases Nat.lt_or_ge p.block W.heap.size with h1 | h1
  · exact h1
  · simp [World.cell?, Array.getElem?_eq_none h1] at h
theorem cell_step {W w2 : World} {p : Addr} {v : Value} (h : W.cell? p = some v) (hb : Below W.heap.size W w2) : w2.cell? p = some v := (hb.cell (cell_lt h)).trans h
theorem free_step {W w2 : World} {p : Addr} {v : Value} (h : W.cell? p = some v) (hf : W.frozen? p = false) (hb : Below W.heap.size W w2) : w2.frozen? p = false := (hb.frozen (cell_lt h)).trans hf
theorem cell_of_set {W : World} {a p : Addr} {v x : Value} (h : (W.setCell a v).cell? p = some x) : ∃ y, W.cell? p = some y := by
  cases hy : W.cell? p with
  | some y => exact ⟨y, rfl⟩
  | none =>
    exfalso
    revert h hy
    unfold World.cell? World.setCell
    simp only [Array.getElem?_modify]
    by_cases e : a.block = p.block
    · rw [if_pos e]
      cases W.heap[p.block]? with
      | none => simp
      | some o =>
        cases o <;> try simp
        rename_i c t f
        by_cases hp : p.spot.isSome = true <;> by_cases ha : a.spot.isSome = true <;> simp_all
        all_goals
          intros
          rcases Nat.lt_or_ge p.off c.size with h1 | h1
          · first | exact h1 | simp_all
          · simp_all
    · rw [if_neg e]
      intro h1 h2
      simp_all
/-- A box of two cells at r that will be written: whatever it holds. -/
def ResBox (r : Nat) (W : World) : Prop := (∃ x0 x1, W.cell? ⟨r, 0, none⟩ = some x0 ∧ W.cell? ⟨r, 1, none⟩ = some x1) ∧ W.frozen? ⟨r, 0, none⟩ = false ∧ W.frozen? ⟨r, 1, none⟩ = false
theorem ResBox.step {W w2 : World} {r : Nat} (h : ResBox r W) (hb : Below W.heap.size W w2) : ResBox r w2 := by
  obtain ⟨⟨x0, x1, h1, h2⟩, h3, h4⟩ := h
  exact ⟨⟨x0, x1, cell_step h1 hb, cell_step h2 hb⟩, free_step h1 h3 hb, free_step h2 h4 hb⟩
theorem ResBox.set {W : World} {r : Nat} (h : ResBox r W) (v0 v1 : Value) : ResBox r ((W.setCell ⟨r, 0, none⟩ v0).setCell ⟨r, 1, none⟩ v1) := by
  obtain ⟨⟨x0, x1, h1, h2⟩, h3, h4⟩ := h
  refine ⟨⟨v0, v1, ?_, ?_⟩, ?_, ?_⟩ <;> go_simp
/-- A parameter's box of two cells at b, and the result's box of two cells at r. -/
def Box1 (w : World) (b r : Nat) (v0 v1 : Value) (W : World) : Prop :=
  W.cell? ⟨b, 0, none⟩ = some v0 ∧ W.cell? ⟨b, 1, none⟩ = some v1 ∧ ResBox r W ∧ Below w.heap.size w W
theorem Box1.step {w W w2 : World} {b r : Nat} {v0 v1 : Value} (h : Box1 w b r v0 v1 W) (hb : Below W.heap.size W w2) : Box1 w b r v0 v1 w2 := by
  obtain ⟨h1, h2, h3, h7⟩ := h
  exact ⟨cell_step h1 hb, cell_step h2 hb, h3.step hb, bStep h7 hb⟩
theorem Box1.alloc {w W : World} {b r : Nat} {v0 v1 : Value} (h : Box1 w b r v0 v1 W) (o : Obj) : Box1 w b r v0 v1 (W.alloc o) := h.step ((Below.refl _ _).alloc (Nat.le_refl _) o)
theorem Box1.drew {w W : World} {b r : Nat} {v0 v1 : Value} (h : Box1 w b r v0 v1 W) : Box1 w b r v0 v1 W.drew := h.step (Below.refl _ _).drew
theorem cell_set_far {W : World} {b r o o' : Nat} {v x : Value} (h : W.cell? ⟨b, o, none⟩ = some x) (hne : b ≠ r) : (W.setCell ⟨r, o', none⟩ v).cell? ⟨b, o, none⟩ = some x :=
  (World.cell?_of_block (w := W) (Below.heap_setCell W _ _ _ hne)).trans h
theorem Box1.set {w W : World} {b r : Nat} {v0 v1 : Value} (h : Box1 w b r v0 v1 W) (hr : w.heap.size ≤ r) (hne : b ≠ r) (x0 x1 : Value) : Box1 w b r v0 v1 ((W.setCell ⟨r, 0, none⟩ x0).setCell ⟨r, 1, none⟩ x1) := by
  obtain ⟨h1, h2, h3, h7⟩ := h
  exact ⟨cell_set_far (cell_set_far h1 hne) hne, cell_set_far (cell_set_far h2 hne) hne, h3.set x0 x1, bSet (bSet h7 hr _) hr _⟩
/-- Two parameters' boxes at b, c, and the result's at r. -/
def Box2 (w : World) (b c r : Nat) (v0 v1 x0 x1 : Value) (W : World) : Prop :=
  W.cell? ⟨b, 0, none⟩ = some v0 ∧ W.cell? ⟨b, 1, none⟩ = some v1 ∧ W.cell? ⟨c, 0, none⟩ = some x0 ∧ W.cell? ⟨c, 1, none⟩ = some x1 ∧ ResBox r W ∧ Below w.heap.size w W
theorem Box2.step {w W w2 : World} {b c r : Nat} {v0 v1 x0 x1 : Value} (h : Box2 w b c r v0 v1 x0 x1 W) (hb : Below W.heap.size W w2) : Box2 w b c r v0 v1 x0 x1 w2 := by
  obtain ⟨h1, h2, k1, k2, h3, h7⟩ := h
  exact ⟨cell_step h1 hb, cell_step h2 hb, cell_step k1 hb, cell_step k2 hb, h3.step hb, bStep h7 hb⟩
theorem Box2.alloc {w W : World} {b c r : Nat} {v0 v1 x0 x1 : Value} (h : Box2 w b c r v0 v1 x0 x1 W) (o : Obj) : Box2 w b c r v0 v1 x0 x1 (W.alloc o) := h.step ((Below.refl _ _).alloc (Nat.le_refl _) o)
theorem Box2.drew {w W : World} {b c r : Nat} {v0 v1 x0 x1 : Value} (h : Box2 w b c r v0 v1 x0 x1 W) : Box2 w b c r v0 v1 x0 x1 W.drew := h.step (Below.refl _ _).drew
theorem Box2.set {w W : World} {b c r : Nat} {v0 v1 y0 y1 : Value} (h : Box2 w b c r v0 v1 y0 y1 W) (hr : w.heap.size ≤ r) (hne : b ≠ r) (hne2 : c ≠ r) (x0 x1 : Value) : Box2 w b c r v0 v1 y0 y1 ((W.setCell ⟨r, 0, none⟩ x0).setCell ⟨r, 1, none⟩ x1) := by
  obtain ⟨h1, h2, h4, h5, h3, h7⟩ := h
  exact ⟨cell_set_far (cell_set_far h1 hne) hne, cell_set_far (cell_set_far h2 hne) hne, cell_set_far (cell_set_far h4 hne2) hne2, cell_set_far (cell_set_far h5 hne2) hne2, h3.set x0 x1, bSet (bSet h7 hr _) hr _⟩

end Go.Proofs.YtolnbblikfpnbaaDoor

/-
  Small facts on worlds, continued.
-/
set_option linter.unusedSimpArgs false
set_option linter.unusedVariables false
namespace Go.Proofs.YtolnbblikfpnbaaDoor
open Go.RowKit

/-! The same, the step first: for 'by assumption' in this order. -/
theorem cellS {W w2 : World} {p : Addr} {v : Value} (hb : Below W.heap.size W w2) (h : W.cell? p = some v) : w2.cell? p = some v := cell_step h hb
theorem cellA {W : World} {o : Obj} {p : Addr} {v : Value} (h : W.cell? p = some v) : (W.alloc o).cell? p = some v := cell_step h ((Below.refl _ _).alloc (Nat.le_refl _) o)
theorem cellD {W : World} {p : Addr} {v : Value} (h : W.cell? p = some v) : W.drew.cell? p = some v := h
theorem freeS {W w2 : World} {p : Addr} {v : Value} (hb : Below W.heap.size W w2) (h : W.cell? p = some v) (hf : W.frozen? p = false) : w2.frozen? p = false := free_step h hf hb
theorem freeA {W : World} {o : Obj} {p : Addr} {v : Value} (h : W.cell? p = some v) (hf : W.frozen? p = false) : (W.alloc o).frozen? p = false := free_step h hf ((Below.refl _ _).alloc (Nat.le_refl _) o)
theorem freeD {W : World} {p : Addr} (h : W.frozen? p = false) : W.drew.frozen? p = false := h
theorem bStepF {w b c : World} (k : Below b.heap.size b c) (h : Below w.heap.size w b) : Below w.heap.size w c := bStep h k

end Go.Proofs.YtolnbblikfpnbaaDoor

/-
  A region that draws its order, by one condition on what has been carried out: each operation is walked once, from whatever state meets the condition.
-/
set_option linter.unusedSimpArgs false
set_option linter.unusedVariables false
namespace Go.Proofs.YtolnbblikfpnbaaDoor
open Go.RowKit

section
variable {P : Program} {ops : Array Oper} {Q : Exit → Act → World → Prop}

/-- Every operation waits for earlier ones alone. -/
def early (ops : Array Oper) : Bool := (List.range ops.size).all fun i => ((ops[i]?).map (·.after.all fun e => !Region.binds .any e || decide (e.on < i))).getD true

theorem all_listed {l : Array Bool} (hsz : l.size = ops.size) (he : early ops = true) (h : Region.ready .any ops l = []) : ∀ i, i < ops.size → l.getD i true = true := by
  intro i
  induction i using Nat.strongRecOn with
  | _ i ih =>
    intro hi
    cases hl : l.getD i true with
    | true => rfl
    | false =>
      exfalso
      have hr : i ∈ Region.ready .any ops l := by
        unfold Region.ready
        rw [List.mem_filter]
        refine ⟨List.mem_range.2 hi, ?_⟩
        have ho : ops[i]? = some ops[i] := Array.getElem?_eq_getElem hi
        rw [hl, ho]
        simp only [Bool.not_false, Bool.true_and, Option.map_some, Option.getD_some]
        rw [Array.all_eq_true']
        intro e hem
        have h1 := List.all_eq_true.1 he i (List.mem_range.2 hi)
        rw [ho] at h1
        simp only [Option.map_some, Option.getD_some] at h1
        rw [Array.all_eq_true'] at h1
        have h2 := h1 e hem
        cases hb : Region.binds .any e with
        | false => simp
        | true =>
          rw [hb] at h2
          simp at h2
          have h3 := ih e.on h2 (by omega)
          have : l.getD e.on false = true := by
            rw [Array.getD_eq_getD_getElem?] at h3 ⊢
            cases hx : l[e.on]? with
            | some x => rw [hx] at h3; simpa using h3
            | none =>
              exfalso
              rw [Array.getElem?_eq_none_iff] at hx
              omega
          simp [this]
      rw [h] at hr
      exact absurd hr (by simp)

/-- How many are still to come. -/
def left (l : Array Bool) : Nat := l.toList.count false
theorem left_set {l : Array Bool} {i : Nat} (hi : i < l.size) (h : l.getD i true = false) : left (l.setIfInBounds i true) + 1 = left l := by
  obtain ⟨l⟩ := l
  simp only [left, List.setIfInBounds_toArray]
  have hi' : i < l.length := by simpa using hi
  have h' : l[i] = false := by
    rw [Array.getD_eq_getD_getElem?] at h
    simpa [hi'] using h
  rw [List.count_set hi']
  have hc : 0 < List.count false l := List.count_pos_iff.2 (h' ▸ List.getElem_mem hi')
  simp [h']
  omega
theorem ready_iff {md : Region.Mode} {l : Array Bool} {i : Nat} (h : i ∈ Region.ready md ops l) :
    i < ops.size ∧ l.getD i true = false ∧ ∀ o, ops[i]? = some o → (o.after.all fun e => !Region.binds md e || l.getD e.on false) = true := by
  unfold Region.ready at h
  rw [List.mem_filter] at h
  obtain ⟨h1, h2⟩ := h
  rw [Bool.and_eq_true] at h2
  refine ⟨List.mem_range.1 h1, by simpa using h2.1, fun o ho => ?_⟩
  have h3 := h2.2
  rw [ho] at h3
  simpa using h3

theorem any_inv (he : early ops = true) (I : Array Bool → Act → World → Prop) (hsz : ∀ l a w, I l a w → l.size = ops.size)
    (step : ∀ i o, ops[i]? = some o → ∀ l a w, I l a w → l.getD i true = false → (o.after.all fun e => !Region.binds .any e || l.getD e.on false) = true → wpOp P ops Q i (I (l.setIfInBounds i true)) a w)
    (done : ∀ l a w, I l a w → (∀ i, i < ops.size → l.getD i true = true) → Q .normal a w) :
    ∀ fuel l a w, I l a w → left l ≤ fuel → wpAny P .any ops Q fuel l a w := by
  intro fuel
  induction fuel with
  | zero =>
    intro l a w hI hf
    have hr : Region.ready .any ops l = [] := by
      rw [List.eq_nil_iff_forall_not_mem]
      intro i hi
      obtain ⟨h1, h2, _⟩ := ready_iff hi
      have := left_set (by rw [hsz l a w hI]; exact h1) h2
      omega
    exact ⟨hr, done l a w hI (all_listed (hsz l a w hI) he hr)⟩
  | succ n ih =>
    intro l a w hI hf
    refine ⟨fun hr => done l a w hI (all_listed (hsz l a w hI) he hr), fun i hi => ?_⟩
    obtain ⟨h1, h2, h3⟩ := ready_iff hi
    have ho : ops[i]? = some ops[i] := Array.getElem?_eq_getElem h1
    have hl := left_set (by rw [hsz l a w hI]; exact h1) h2
    exact wpOp_mono (fun a' w' h' => ih _ a' w' h' (by omega)) (step i _ ho l a w hI h2 (h3 _ ho))

theorem left_new (n : Nat) : left (Array.replicate n false) = n := by simp [left]

/-- THE RULE: a condition I on which operations have been carried out, the frame and the world. -/
theorem region_inv {id : Nat} {a : Act} {w : World} (hm : P.follows .mixedOrders = true) (he : early ops = true) (I : Array Bool → Act → World → Prop) (h0 : I (Array.replicate ops.size false) a w.drew) (hsz : ∀ l a w, I l a w → l.size = ops.size)
    (step : ∀ i o, ops[i]? = some o → ∀ l a w, I l a w → l.getD i true = false → (o.after.all fun e => !Region.binds .any e || l.getD e.on false) = true → wpOp P ops Q i (I (l.setIfInBounds i true)) a w)
    (done : ∀ l a w, I l a w → (∀ i, i < ops.size → l.getD i true = true) → Q .normal a w) : (Code.region id ops true).wp P Q a w :=
  wp_region_any hm (any_inv he I hsz step done ops.size _ _ _ h0 (by rw [left_new]; exact Nat.le_refl _))

theorem wpOp_plain {i : Nat} {o : Oper} {K : Act → World → Prop} {a : Act} {w : World} (hi : ops[i]? = some o) (hg : o.guard = none) (h : o.wp P a w K Q) : wpOp P ops Q i K a w := by
  unfold wpOp
  rw [hi]
  simp only [Region.wanted, hg, if_true]
  exact .inl h

end
end Go.Proofs.YtolnbblikfpnbaaDoor

/-
  The rule of XInv for frames that are written out: what a region's operations have left in their slots; boxes that it makes.
-/
set_option linter.unusedSimpArgs false
set_option linter.unusedVariables false
namespace Go.Proofs.YtolnbblikfpnbaaDoor
open Go.RowKit

/-- A frame with some slots written. -/
def updAll (a : Act) : List (Nat × Value) → Act
  | [] => a
  | (d, v) :: l => (updAll a l).put (some d) v

/-- A box that a region makes (b: it is made; d: it is filled). -/
def BoxF (b d : Bool) (s : Value) (base : Nat) (z c : Array Value) (T : TypeId) (W : World) : Prop :=
  b = true → ∃ r, s = .pointer (some ⟨r, 0, none⟩) ∧ base ≤ r ∧ W.heap[r]? = some (.cells (if d = true then c else z) T (0, 0))
theorem BoxF.step {b d : Bool} {s : Value} {base : Nat} {z c : Array Value} {T : TypeId} {W W2 : World} (h : BoxF b d s base z c T W) (hb : Below W.heap.size W W2) : BoxF b d s base z c T W2 := fun e => by
  obtain ⟨r, h1, h2, h3⟩ := h e
  exact ⟨r, h1, h2, blk_step h3 hb⟩
theorem BoxF.no {d : Bool} {s : Value} {base : Nat} {z c : Array Value} {T : TypeId} {W : World} : BoxF false d s base z c T W := fun e => by cases e
theorem BoxF.new {base : Nat} {z c : Array Value} {T : TypeId} {W : World} (hb : base ≤ W.heap.size) : BoxF true false (.pointer (some ⟨W.heap.size, 0, none⟩)) base z c T (W.alloc (.cells z T)) := fun _ =>
  ⟨_, rfl, hb, by simpa using blk_new W (.cells z T)⟩
theorem BoxF.setFar {b d : Bool} {q : Nat} {s : Value} {base : Nat} {z c : Array Value} {T : TypeId} {W : World} (h : BoxF b d s base z c T W) (hne : b = true → s ≠ .pointer (some ⟨q, 0, none⟩)) (o : Nat) (v : Value) : BoxF b d s base z c T (W.setCell ⟨q, o, none⟩ v) := fun e => by
  obtain ⟨r, h1, h2, h3⟩ := h e
  refine ⟨r, h1, h2, blk_set_other h3 (fun c => ?_)⟩
  exact hne e (by rw [h1]; simp at c; rw [c])
/-- Two boxes of one region are two. -/
def Apart (b b' : Bool) (s s' : Value) : Prop := b = true → b' = true → s ≠ s'
theorem Apart.no {b' : Bool} {s s' : Value} : Apart false b' s s' := fun e => by cases e
theorem Apart.no' {b : Bool} {s s' : Value} : Apart b false s s' := fun _ e => by cases e
theorem Apart.symm {b b' : Bool} {s s' : Value} (h : Apart b b' s s') : Apart b' b s' s := fun e e' c => h e' e c.symm
theorem Apart.new {b' d' : Bool} {s' : Value} {base : Nat} {z c : Array Value} {T : TypeId} {W : World} (h : BoxF b' d' s' base z c T W) : Apart true b' (.pointer (some ⟨W.heap.size, 0, none⟩)) s' := fun _ e c => by
  obtain ⟨r, h1, h2, h3⟩ := h e
  have := blk_lt h3
  rw [h1] at c
  simp at c

section
variable {P : Program} {ops : Array Oper} {Q : Exit → Act → World → Prop}
theorem step_to {i : Nat} {K : Act → World → Prop} {a : Act} {w : World} {a' : Act} {w' : World} (h : ∀ K' : Act → World → Prop, K' a' w' → wpOp P ops Q i K' a w) (hk : K a' w') : wpOp P ops Q i K a w := h K hk
theorem step_ex {i : Nat} {K : Act → World → Prop} {a : Act} {w : World} (C : Act → World → Prop) (h : ∀ K' : Act → World → Prop, (∀ a' w', C a' w' → K' a' w') → wpOp P ops Q i K' a w) (hk : ∀ a' w', C a' w' → K a' w') : wpOp P ops Q i K a w := h K hk
end

end Go.Proofs.YtolnbblikfpnbaaDoor
