/-
  From a row that lists variables to the walk: the powers of 10, two errors, and the length that the world's shape gives.
-/
import Derived.Test.YtolnbblikfpnbaaDoorSgl
import Derived.ChangeSlices
import Derived.OpenShut
import Derived.ChangeSame
import Derived.ProofKit
import Derived.LaidSub
import Derived.Lay
import Derived.MakeChecks
import Derived.LaidLaws
import Derived.HandedShaped
import Derived.Shelf.Vars
import Derived.KernelRfl
set_option linter.unusedSimpArgs false
set_option linter.unusedVariables false
namespace Go.Proofs.YtolnbblikfpnbaaDoor
open Go.ChangeShapes Go.WideShapes Go.RowKit

theorem handed_laid_shaped {H : Type} {enc : TypeId × Value → H} {a : Assume} {C : Checked} {os : Os} {f : FuncId} {fn : Func} {s : ChangeSpec} {conds : List PathCond} {apart fresh handsOn again : Bool} {X : World → Array Value → Prop}
    (hX : ∀ (w w' : World) (args : Array Value), w.heap = w'.heap → X w args → X w' args)
    (own : ownKnob C.prog.godebug = none) (started : os.Started) (noInit : C.prog.inits.idxOf? f = none) (hfn : C.prog.funcs[f]? = some fn)
    (witness : ∃ (w : World) (tape : Tape) (i : Input), w.os = os ∧ (w.forCall tape i).Shaped C.prog ∧ i.vars = [] ∧ Input.okWide C.prog (w.forCall tape i) .any w.heap.size f i ∧
      ((s.pre enc C.prog fn conds apart (w.forCall tape i).memory i.args ∧ X (w.forCall tape i).memory i.args) ∧ sizedMet enc C.prog fn (OpenSpec.ofChange s) apart (w.forCall tape i).memory i.args) ∧ a.holds C.prog (lone (Frame.enter C.prog f i.args .normal) [] (w.forCall tape i)))
    (contract : ∀ (W : World) (base : Nat) (args : Array Value) (ds gs : List (DataW H)) (before : List MemPlace),
      (∀ (j : Nat) t v, fn.params[j]? = some t → args[j]? = some v → Value.okWide C.prog W .any base t v) →
      DataW.Whole enc C.prog fn.params.toList s.vars apart W args.toList ds gs before →
      conds.all (PathCond.test C.prog ⟨fn.params.toList, ds, s.plain.varTypes C.prog, gs⟩) = true →
      (DataW.weightsEach C.prog (fn.params.toList ++ s.plain.varTypes C.prog) (ds ++ gs)).all (· ≤ reachBytes) = true → X W args → W.ShapedOpen C.prog →
      a.holds C.prog (lone (Frame.enter C.prog f args .normal) [] W) →
      Calls C.prog f args W fun e W' => ∃ v, e = .returned v ∧ s.post enc C.prog fn apart fresh handsOn again W args v W') :
    ReturnsInHanded a C os f .any (fun w args => (s.pre enc C.prog fn conds apart w args ∧ X w args) ∧ sizedMet enc C.prog fn (OpenSpec.ofChange s) apart w args) (s.post enc C.prog fn apart fresh handsOn again) := by
  refine returnsInHanded_of_calls own started noInit witness ?_
  intro w tape i _ hsh _ hok hpre hholds
  obtain ⟨_, _, _, fn', hfn', _, _, _, _, hval⟩ := hok
  have e : fn' = fn := Option.some.inj (hfn'.symm.trans hfn)
  subst e
  obtain ⟨⟨⟨ds, gs, before, hw, hc⟩, hx⟩, hz⟩ := hpre
  have hw' := DataW.Whole.of_heap (w' := w.forCall tape i) (by rfl) hw
  refine (contract (w.forCall tape i) w.heap.size i.args ds gs before hval hw' hc (hz.weights hw) (hX _ _ _ (by rfl) hx) hsh hholds).mono fun e W' ⟨v, he, hp⟩ => ?_
  subst he
  exact ChangeSpec.post_blind hp

theorem errAt_of_laid {n nm : String} {d : DataW Unit} {W : World} {g : Nat} {ti : TypeId} {ms : Array (String × TypeId)}
    (h : laidMet Tryd.prog [(n, .iface nm d)] W) (hg : Tryd.prog.globalNamed n = some g) (ht : (Tryd.prog.globals[g]?).map (·.type) = some ti) (hi : Tryd.prog.underlying ti = some (.interface ms)) : Sx.ErrAt W n := by
  obtain ⟨ps, ⟨g0, t0, cs0, f0, p0, q0, hg0, ht0, hv0, hd0, _, e0⟩, _, hrows⟩ := h
  obtain rfl := Option.some.inj (hg.symm.trans hg0)
  obtain rfl := Option.some.inj (ht.symm.trans ht0)
  obtain ⟨l0⟩ := cs0
  obtain ⟨f1, u, v, e, hn, h1⟩ := iface_of_trod hi hd0
  have e' : l0 = [.iface u v] := e
  subst e'
  exact ⟨u, v, hv0⟩
/-- A list of one variable, which holds an error. -/
def isIf : List (String × DataW Unit) → String → Bool
  | [(x, .iface _ _)], n => x == n
  | _, _ => false
theorem isIf_is {l : List (String × DataW Unit)} {n : String} (h : isIf l n = true) : ∃ m d, l = [(n, .iface m d)] := by
  unfold isIf at h
  split at h
  · have e := eq_of_beq h
    subst e
    exact ⟨_, _, rfl⟩
  · cases h
theorem max_of_shaped {W : World} (h : W.ShapedOpen Tryd.prog) : Sx.MaxAt W :=
  Go.Proofs.cell_of_shapedOpen_int (t := 3) (k := .i64) (zero := #[.int .i64 0]) h (of_decide_eq_true (by kernel_rfl)) (by kernel_rfl) rfl (by kernel_rfl) (by kernel_rfl) Tryd.underlying3
theorem glob_of_laid {l : List (String × DataW Unit)} (hd : (l.all fun x => x.2.handleName?.isNone) = true)
    (hl : l.filter (fun x => x.1 == Sx.powN) = [(Sx.powN, Lib.tabData .u64 Lib.pow10Tab)]) (hl2 : isIf (l.filter (fun x => x.1 == Sx.rngN)) Sx.rngN = true) (hl3 : isIf (l.filter (fun x => x.1 == Sx.synN)) Sx.synN = true)
    {W : World} (h : laidMetH Tryd.prog l W) (hS : W.ShapedOpen Tryd.prog) : Sx.Glob0 W := by
  obtain ⟨m2, d2, hl2⟩ := isIf_is hl2
  obtain ⟨m3, d3, hl3⟩ := isIf_is hl3
  rw [MakeChecks.laidMetH_plain _ _ _ hd] at h
  have h1 := h.filter (fun x => x.1 == Sx.powN)
  rw [hl] at h1
  have h2 := h.filter (fun x => x.1 == Sx.rngN)
  rw [hl2] at h2
  have h3 := h.filter (fun x => x.1 == Sx.synN)
  rw [hl3] at h3
  exact Sx.glob0_of ⟨Lib.tabIs_of_head (t := 115) (e := 94) (n := 20) Sx.powG_is (by kernel_rfl) Tryd.underlying115 Tryd.underlying94 (by kernel_rfl) (by kernel_rfl) h1,
    errAt_of_laid h2 Sx.rngG_is (by kernel_rfl) Tryd.underlying64, errAt_of_laid h3 Sx.synG_is (by kernel_rfl) Tryd.underlying64, max_of_shaped hS⟩
end Go.Proofs.YtolnbblikfpnbaaDoor
