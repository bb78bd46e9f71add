/-
  Functions.
-/
import Derived.Test.YtlhponankanlmaaGreatDoorG5Nil9
import Derived.Below
import Derived.ProofKit
import Derived.OpenShut
import Derived.WideShapes
import Derived.Test.YtlhponankanlmaaGreatDoorProg
import Derived.KernelRfl
set_option linter.unusedSimpArgs false
set_option linter.unusedVariables false
namespace Go.Proofs.YtlhponankanlmaaGreatDoor
namespace Sx
open Go.RowKit

section
variable {P : Program} {tb : Tb}

/-! What is handed back. -/
def resV (tb : Tb) (σ : St) : ResultVar → Option Sv
  | .tmp t => alook σ.tm t
  | .cell a t => match alook σ.tm a with
    | some (.one (.ptr id (.lit k))) => match alook σ.bk id with
      | some (.ar _ _ cs _) => match tb.agg t, tb.info t with
        | some false, _ => (cs[k]?).map .one
        | some true, some i => match Nat.ble (k + i.size) cs.length with
          | true => some (.agg ((cs.drop k).take i.size))
          | false => none
        | _, _ => none
      | _ => none
    | _ => none
def comp : Sv → Option (Bool × List Cv)
  | .one c => some (false, [c])
  | .agg cs => some (true, cs)
  | .tup _ => none
theorem comp_den {v : Sv} {p : Bool × List Cv} (h : comp v = some p) : (∀ e, compDen e p = v.den e) ∧ ∀ s, v.sc s → scs s p.2 := by
  cases v with
  | one c =>
    obtain rfl := Option.some.inj h
    refine ⟨fun e => rfl, fun s hs x hx => ?_⟩
    obtain rfl : x = c := by simpa using hx
    exact hs
  | agg cs => obtain rfl := Option.some.inj h; exact ⟨fun e => rfl, fun s hs => hs⟩
  | tup _ => cases h
def comps (tb : Tb) (σ : St) : List ResultVar → Option (List (Bool × List Cv))
  | [] => some []
  | r :: rs => match (resV tb σ r).bind comp, comps tb σ rs with
    | some p, some ps => some (p :: ps)
    | _, _ => none
def evRes (tb : Tb) (σ : St) : List ResultVar → Option Sv
  | [r] => resV tb σ r
  | rs => (comps tb σ rs).map .tup
def resRun (tmps : Array Value) : ResultVar → Sem Value
  | .tmp t => pure (tmps.getD t undef)
  | .cell p t => do loadVar t (← asAddr (tmps.getD p undef))
theorem resV_run (hT : TbOk P tb) {C : Ctx} {N : Nat} {e : Env} {σ : St} {a : Act} {w : World} (hR : Rel C N e (look σ) a w) {r : ResultVar} {v : Sv} (h : resV tb σ r = some v) :
    (resRun a.tmps r).run P w = .ok (v.den e) w ∧ v.sc (look σ) := by
  cases r with
  | tmp t =>
    have h1 : look σ (.t t) = some (.sv v) := by simp only [look]; rw [show alook σ.tm t = some v from h]; rfl
    obtain ⟨_, h2, h3⟩ := hR.tm t v h1
    exact ⟨by rw [← h2]; rfl, h3⟩
  | cell p t =>
    simp only [resV] at h
    split at h
    · rename_i id k hp
      have h1 : look σ (.t p) = some (.sv (.one (.ptr id (.lit k)))) := by simp only [look, hp]; rfl
      obtain ⟨_, h2, _⟩ := hR.tm p _ h1
      split at h
      · rename_i t' ro cs cp hb
        have hcell : ∀ j c, cs[j]? = some c → w.cell? (e.ad id j) = some (c.den e) ∧ c.sc (look σ) := by
          intro j c hc
          have h3 : look σ (.c id j) = some (.cv c) := by simp only [look, hb, Option.bind_some, Blk.cell, hc, Option.map_some]
          obtain ⟨h4, _, h5⟩ := hR.hp.cl id j c h3
          exact ⟨h5, h4⟩
        split at h
        · rename_i ha
          obtain ⟨c, hc, rfl⟩ := Option.map_eq_some_iff.1 h
          obtain ⟨h3, h4⟩ := hcell k c hc
          refine ⟨?_, h4⟩
          simp only [resRun, Sem.run_bind, h2, den_ptr, asAddr, Sem.run_pure, Result.andThen_ok, loadVar, run_agg hT ha, Bool.false_eq_true, if_false, run_load]
          rw [show Sn.den e (.lit k) = k from rfl, h3]
          rfl
        · rename_i i ha hi
          split at h
          · rename_i hle
            rw [Nat.ble_eq] at hle
            obtain rfl := Option.some.inj h
            have hr := run_loadCells (P := P) w (e.ad id k) i.size (fun j => (cs.getD (k + j) (.val undef)).den e) (fun j hj => by
              rw [ad_add]
              have hlt : k + j < cs.length := by omega
              exact (hcell (k + j) _ (by simp [hlt])).1)
            refine ⟨?_, fun c hc => ?_⟩
            · simp only [resRun, Sem.run_bind, h2, den_ptr, asAddr, Sem.run_pure, Result.andThen_ok, loadVar, run_agg hT ha, if_true, run_size hT hi]
              rw [show Sn.den e (.lit k) = k from rfl, hr]
              try simp only [Result.andThen_ok, den_agg]
              show Result.ok (Value.agg _) w = Result.ok (Value.agg _) w
              congr 2
              unfold densA
              congr 1
              apply List.ext_getElem?
              intro j
              by_cases hj : j < i.size
              · have hlt : k + j < cs.length := by omega
                rw [List.getElem?_map, List.getElem?_range hj, List.getElem?_map, List.getElem?_take_of_lt hj, List.getElem?_drop]
                simp [hlt]
              · rw [List.getElem?_eq_none (by simp; omega), List.getElem?_eq_none (by simp; omega)]
            · obtain ⟨j, hj⟩ := List.mem_iff_getElem?.1 (List.mem_of_mem_drop (List.mem_of_mem_take hc))
              exact (hcell j c hj).2
          · cases h
        · cases h
      · cases h
    · cases h
theorem comps_run (hT : TbOk P tb) {C : Ctx} {N : Nat} {e : Env} {σ : St} {a : Act} {w : World} (hR : Rel C N e (look σ) a w) : ∀ {rs : List ResultVar} {ps : List (Bool × List Cv)}, comps tb σ rs = some ps →
    (rs.mapM (resRun a.tmps)).run P w = .ok (ps.map (compDen e)) w ∧ ∀ p ∈ ps, scs (look σ) p.2
  | [], ps, h => by
    obtain rfl := Option.some.inj h
    exact ⟨rfl, fun p hp => by cases hp⟩
  | r :: rs, ps, h => by
    simp only [comps] at h
    split at h
    · rename_i p ps' hp hps
      obtain rfl := Option.some.inj h
      obtain ⟨v, hv, hc⟩ := Option.bind_eq_some_iff.1 hp
      obtain ⟨d, sc⟩ := comp_den hc
      obtain ⟨r1, r2⟩ := resV_run hT hR hv
      obtain ⟨i1, i2⟩ := comps_run hT hR hps
      refine ⟨?_, fun q hq => ?_⟩
      · rw [List.mapM_cons, Sem.run_bind, r1, Result.andThen_ok, Sem.run_bind, i1, Result.andThen_ok]
        rw [List.map_cons, d e]
        rfl
      · cases hq with
        | head => exact sc _ r2
        | tail _ hq => exact i2 q hq
    · cases h
theorem evRes_run (hT : TbOk P tb) {C : Ctx} {N : Nat} {e : Env} {σ : St} {a : Act} {w : World} (hR : Rel C N e (look σ) a w) {fn : Func} {v : Sv} (h : evRes tb σ fn.results.toList = some v) :
    (results fn a.tmps).run P w = .ok (v.den e) w ∧ v.sc (look σ) := by
  have hres : ∀ vs : List Value, (fn.results.toList.mapM (resRun a.tmps)).run P w = .ok vs w → (results fn a.tmps).run P w = .ok (if h : vs.toArray.size = 1 then vs.toArray[0] else .tuple vs.toArray) w := by
    intro vs hvs
    have he : results fn a.tmps = (do
        let vs ← fn.results.mapM (resRun a.tmps)
        pure (if h : vs.size = 1 then vs[0] else .tuple vs)) := by
      unfold results
      first
        | rfl
        | (congr 2; done)
        | (congr 2; funext r; cases r <;> rfl)
    rw [he, Sem.run_bind, Array.mapM_eq_mapM_toList, Sem.run_map, hvs]
    rfl
  unfold evRes at h
  split at h
  · rename_i r hr
    obtain ⟨r1, r2⟩ := resV_run hT hR h
    refine ⟨?_, r2⟩
    rw [hres [v.den e] (by rw [hr, List.mapM_cons, Sem.run_bind, r1, Result.andThen_ok]; rfl)]
    rfl
  · rename_i hn
    obtain ⟨ps, hps, rfl⟩ := Option.map_eq_some_iff.1 h
    obtain ⟨i1, i2⟩ := comps_run hT hR hps
    refine ⟨?_, i2⟩
    rw [hres _ i1]
    have hlen : ps.length = fn.results.toList.length := by
      have : ∀ (rs : List ResultVar) (ps : List (Bool × List Cv)), comps tb σ rs = some ps → ps.length = rs.length := by
        intro rs
        induction rs with
        | nil => intro ps h; obtain rfl := Option.some.inj h; rfl
        | cons r rs ih =>
          intro ps h
          simp only [comps] at h
          split at h
          · rename_i p ps' _ hps'
            obtain rfl := Option.some.inj h
            simp [ih _ hps']
          · cases h
      exact this _ _ hps
    rw [dif_neg]
    · rfl
    · simp only [List.size_toArray, List.length_map]
      rw [hlen]
      intro h1
      obtain ⟨r, hr⟩ := List.length_eq_one_iff.1 h1
      exact hn r hr

/-! A function's own frame. -/
def argTm : Nat → List Sv → List (Nat × Sv)
  | _, [] => []
  | i, v :: vs => (i, v) :: argTm (i + 1) vs
def enterSt (σ : St) (args : List Sv) : St := { σ with tm := argTm 0 args, lg := [] }
theorem argTm_at : ∀ {args : List Sv} {i t : Nat} {v : Sv}, alook (argTm i args) t = some v → i ≤ t ∧ args[t - i]? = some v
  | [], i, t, v, h => by cases h
  | u :: us, i, t, v, h => by
    simp only [argTm, alook] at h
    cases hb : Nat.beq i t with
    | true =>
      rw [hb] at h
      obtain rfl := beq_iff'.1 hb
      obtain rfl := Option.some.inj h
      exact ⟨Nat.le_refl _, by simp⟩
    | false =>
      rw [hb] at h
      obtain ⟨h1, h2⟩ := argTm_at h
      refine ⟨by omega, ?_⟩
      rw [show t - i = (t - (i + 1)) + 1 by omega]
      simpa using h2
theorem enter_rel {C : Ctx} {e : Env} {σ : St} {w : World} {args : List Sv} {N : Nat} (hp : Hp C e (look σ) w) (ha : ∀ x ∈ args, x.sc (look σ)) (hN : args.length ≤ N) :
    Rel C N e (look (enterSt σ args)) { tmps := (args.map (·.den e)).toArray ++ Array.replicate (N - (args.map (·.den e)).toArray.size) undef, defers := [] } w := by
  have hS : Sub (look σ) (look (enterSt σ args)) := ⟨fun _ h => h, fun _ h => h⟩
  refine ⟨by simp; omega, rfl, ?_, hp.congr fun l hl => ?_⟩
  · intro t v ht
    have h1 : alook (argTm 0 args) t = some v := by
      simp only [look, enterSt] at ht
      obtain ⟨u, hu, he⟩ := Option.map_eq_some_iff.1 ht
      obtain rfl : u = v := by simpa using he
      exact hu
    obtain ⟨_, h2⟩ := argTm_at h1
    rw [Nat.sub_zero] at h2
    have hlt := (List.getElem?_eq_some_iff.1 h2).1
    refine ⟨by omega, ?_, (ha v (List.mem_of_getElem? h2)).sub hS⟩
    show ((args.map (·.den e)).toArray ++ _).getD t undef = _
    rw [Array.getD_eq_getD_getElem?, Array.getElem?_append_left (by simpa using hlt)]
    simp [h2]
  · cases l with
    | t n => exact absurd rfl (hl n)
    | _ => rfl

/-! Ways of a function that meet at its end. -/
abbrev FLeaf := Sv × St
def peelF : Tree FLeaf → Option (List Bool × FLeaf)
  | .leaf x => some ([], x)
  | .must b t => (peelF t).map fun p => (b :: p.1, p.2)
  | _ => none
def join2F (σ : St) (b : Bool) (t f : Tree FLeaf) : Tree FLeaf := match peelF t, peelF f with
  | some (mt, (v, x)), some (mf, (u, y)) => match Sv.ite b v u, merge0 σ b x y with
    | some z, some m => musts (mt.map fun q => !b || q) (musts (mf.map fun q => b || q) (.leaf (z, m)))
    | _, _ => .br b t f
  | _, _ => .br b t f
def joinF (σ : St) : Tree FLeaf → Tree FLeaf
  | .leaf x => .leaf x
  | .must b t => .must b (joinF σ t)
  | .br b t f => join2F σ b (joinF σ t) (joinF σ f)
  | .fail => .fail
theorem peelF_at {l : List Bool} {x : FLeaf} : ∀ {t : Tree FLeaf}, peelF t = some (l, x) → (∀ b ∈ l, b = true) → t.At x
  | .leaf y, h, _ => by
    obtain ⟨_, rfl⟩ := Prod.mk.inj (Option.some.inj h)
    rfl
  | .must b t, h, hl => by
    obtain ⟨p, hp, he⟩ := Option.map_eq_some_iff.1 h
    obtain ⟨rfl, rfl⟩ := Prod.mk.inj he
    exact ⟨hl b List.mem_cons_self, peelF_at hp fun c hc => hl c (List.mem_cons_of_mem _ hc)⟩
  | .br _ _ _, h, _ => by cases h
  | .fail, h, _ => by cases h
theorem peelF_every {p : FLeaf → Prop} {l : List Bool} {x : FLeaf} : ∀ {t : Tree FLeaf}, peelF t = some (l, x) → t.Every p → p x
  | .leaf y, h, k => by
    obtain ⟨_, rfl⟩ := Prod.mk.inj (Option.some.inj h)
    exact k
  | .must b t, h, k => by
    obtain ⟨q, hq, he⟩ := Option.map_eq_some_iff.1 h
    obtain ⟨_, rfl⟩ := Prod.mk.inj he
    exact peelF_every (t := t) hq k
  | .br _ _ _, h, _ => by cases h
  | .fail, h, _ => by cases h
theorem join2F_every {σ : St} {b : Bool} {t f : Tree FLeaf} (ht : t.Every fun x => Ext σ x.2) (hf : f.Every fun x => Ext σ x.2) : (join2F σ b t f).Every fun x => Ext σ x.2 := by
  unfold join2F
  split
  · split
    · rename_i hm; exact every_musts (every_musts (merge_ext hm))
    · exact ⟨ht, hf⟩
  · exact ⟨ht, hf⟩
theorem joinF_every {σ : St} : ∀ {T : Tree FLeaf}, (T.Every fun x => Ext σ x.2) → (joinF σ T).Every fun x => Ext σ x.2
  | .leaf _, h => h
  | .must _ t, h => joinF_every (T := t) h
  | .br _ _ _, h => join2F_every (joinF_every h.1) (joinF_every h.2)
  | .fail, _ => trivial
/-- What a leaf hands back, for the way that it stands for. -/
def StandsF (σ : St) (T : Tree FLeaf) (y : FLeaf) : Prop := ∃ x, T.At x ∧ (WS (look σ) → RelTo σ x.2 y.2 ∧ (∀ e, y.1.den e = x.1.den e) ∧ (x.1.sc (look x.2) → y.1.sc (look y.2)))
theorem join2F_ok {σ : St} {b : Bool} {t f : Tree FLeaf} (ht : t.Every fun x => Ext σ x.2) (hf : f.Every fun x => Ext σ x.2) {y : FLeaf} (h : (join2F σ b t f).At y) : StandsF σ (.br b t f) y := by
  have self : (Tree.br b t f).At y → StandsF σ (.br b t f) y := fun hy => ⟨y, hy, fun _ => ⟨RelTo.refl _ _, fun _ => rfl, id⟩⟩
  unfold join2F at h
  split at h
  · rename_i mt v x mf u z hpt hpf
    split at h
    · rename_i r m hr hm
      rw [At_musts, At_musts] at h
      obtain ⟨h1, h2, h3⟩ := h
      obtain rfl : (r, m) = y := h3
      have ex : Ext σ x := peelF_every hpt ht
      have ez : Ext σ z := peelF_every hpf hf
      obtain ⟨d, sc⟩ := Sv.ite_den hr
      have key : ∀ {X : FLeaf}, X = (if b = true then (v, x) else (u, z)) → (Tree.br b t f).At X → StandsF σ (.br b t f) (r, m) := by
        intro X hX hAt
        refine ⟨X, hAt, fun hws => ⟨?_, fun e => ?_, fun _ => sc _⟩⟩
        · intro C N e a w hp hr'
          obtain ⟨k1, _, k3⟩ := merge_wk hws ex ez hm (if b = true then x else z) rfl
          have hx2 : X.2 = if b = true then x else z := by rw [hX]; cases b <;> rfl
          rw [hx2] at hr'
          exact hr'.wk k1 ⟨fun id p hh => k3.1 id (hp.1 id p hh), fun c q hh => k3.2 c (hp.2 c q hh)⟩
        · rw [d e, hX]; cases b <;> rfl
      by_cases hb : b = true
      · refine key (X := (v, x)) (by rw [if_pos hb]) (Or.inl ⟨hb, peelF_at hpt fun q hq => ?_⟩)
        have := h1 _ (List.mem_map.2 ⟨q, hq, rfl⟩)
        rw [hb] at this; simpa using this
      · have hb' : b = false := by simpa using hb
        refine key (X := (u, z)) (by rw [if_neg hb]) (Or.inr ⟨hb', peelF_at hpf fun q hq => ?_⟩)
        have := h2 _ (List.mem_map.2 ⟨q, hq, rfl⟩)
        rw [hb'] at this; simpa using this
    · exact self h
  · exact self h
theorem joinF_ok {σ : St} : ∀ {T : Tree FLeaf} {y : FLeaf}, (T.Every fun x => Ext σ x.2) → (joinF σ T).At y → StandsF σ T y
  | .leaf x, y, _, h => ⟨y, h, fun _ => ⟨RelTo.refl _ _, fun _ => rfl, id⟩⟩
  | .must b t, y, he, h => by
    obtain ⟨x, h1, h2⟩ := joinF_ok (T := t) he h.2
    exact ⟨x, ⟨h.1, h1⟩, h2⟩
  | .br b t f, y, he, h => by
    obtain ⟨x, h1, h2⟩ := join2F_ok (joinF_every he.1) (joinF_every he.2) h
    rcases h1 with ⟨hb, h1⟩ | ⟨hb, h1⟩
    · obtain ⟨z, k1, k2⟩ := joinF_ok he.1 h1
      exact ⟨z, Or.inl ⟨hb, k1⟩, fun hw => ⟨(k2 hw).1.trans (h2 hw).1, fun e => ((h2 hw).2.1 e).trans ((k2 hw).2.1 e), fun hs => (h2 hw).2.2 ((k2 hw).2.2 hs)⟩⟩
    · obtain ⟨z, k1, k2⟩ := joinF_ok he.2 h1
      exact ⟨z, Or.inr ⟨hb, k1⟩, fun hw => ⟨(k2 hw).1.trans (h2 hw).1, fun e => ((h2 hw).2.1 e).trans ((k2 hw).2.1 e), fun hs => (h2 hw).2.2 ((k2 hw).2.2 hs)⟩⟩
  | .fail, _, _, h => h.elim

def outF (tb : Tb) (rs : List ResultVar) (x : Leaf) : Tree FLeaf := match x.1 with
  | .stop _ => .fail
  | .exit _ => .fail
  | _ => match evRes tb x.2 rs with
    | some v => fV v fun v => .leaf (v, x.2)
    | none => .fail
theorem outF_eq {tb : Tb} {rs : List ResultVar} {x : Leaf} : outF tb rs x = match x.1 with
    | .stop _ => .fail
    | .exit _ => .fail
    | _ => match evRes tb x.2 rs with
      | some v => .leaf (v, x.2)
      | none => .fail := by
  simp only [outF, fV_eq]
/-- The slots of variables. -/
def asgOps : List Oper → List Nat → List Nat
  | [], acc => acc
  | o :: l, acc => match o.op, o.dst with
    | .assign _, some d => asgOps l (bif memb acc d then acc else d :: acc)
    | _, _ => asgOps l acc
def asg : Nat → Code → List Nat → List Nat
  | 0, _, acc => acc
  | n + 1, c, acc => match c with
    | .region _ ops _ => asgOps ops.toList acc
    | .seq a b => asg n b (asg n a acc)
    | .cond _ a b => asg n b (asg n a acc)
    | .block _ b => asg n b acc
    | .loop b => asg n b acc
    | _ => acc
def withVr (σ : St) (l : List Nat) : St := { σ with vr := l }
theorem look_withVr (σ : St) (l : List Nat) : look (withVr σ l) = look σ := by funext x; cases x <;> rfl
/-- What is looked at where ways meet: the variables; for a function f with f + 100000 among 'wf', whether they stand written out, and differ; for one with f + 200000: blocks may lose them. -/
def evVr (wf : List FuncId) (f fuel : Nat) (fn : Func) : List Nat := match fn.body with
  | some c => match memb wf (f + 200000) with
    | true => 99999 :: asg fuel c []
    | false => match memb wf (f + 100000) with
      | true => asg fuel c [] ++ (asg fuel c []).map (· + 100000)
      | false => asg fuel c []
  | none => []
def evBody (tb : Tb) (wf : List FuncId) (call : CallF) (fuel : Nat) (vs : List Nat) (fn : Func) (args : List Sv) (σ : St) : Tree FLeaf := match fn.body, Nat.ble args.length fn.ntmps with
  | some c, true => fEnt (enterSt (withVr σ vs) args) fun σ0 => joinF σ0 ((evC tb wf call fn.ntmps [] fuel c σ0).bind (outF tb fn.results.toList))
  | _, _ => .fail
/-- Functions that are told by what is known of them; the others by their text. -/
def evFn (tb : Tb) (wf : List FuncId) (sp : FuncId → Option (List Sv → St → Tree FLeaf)) (fuel : Nat) : Nat → CallF
  | 0, _, _, _ => .fail
  | d + 1, f, args, σ => match sp f with
    | some g => g args σ
    | none => match alook tb.fn f with
      | some fn => evBody tb wf (evFn tb wf sp fuel d) fuel (evVr wf f fuel fn) fn args σ
      | none => .fail
def SpOk (P : Program) (sp : FuncId → Option (List Sv → St → Tree FLeaf)) : Prop := ∀ f g, sp f = some g → ∀ args σ y, (g args σ).At y → FunOk P f args σ y.1 y.2
theorem unW_fns {lg : List Wr} {id off : Nat} (h : unW lg id off = true) : ∀ x ∈ lg, x.fn (.c id off) = none := by
  intro x hx
  have := List.all_eq_true.1 h x hx
  cases x with
  | cell i o v =>
    simp only [Bool.not_eq_true', Bool.and_eq_false_iff, beq_ff] at this
    simp only [Wr.fn]
    rw [if_neg (fun e => by rcases this with h | h; exact h e.1.symm; exact h e.2.symm)]
  | new i b =>
    simp only [Bool.not_eq_true', beq_ff] at this
    simp only [Wr.fn]
    rw [if_neg (fun e => this e.symm)]
  | _ => rfl
theorem ext_keep {σ0 σ' : St} (h : Ext σ0 σ') : KeepL σ0 σ' := by
  intro id off _ hu
  obtain ⟨ws, hw, hl⟩ := h
  rw [look_apps hw, upds_fns]
  have : fns ws (.c id off) = none := by
    cases hf : fns ws (.c id off) with
    | none => rfl
    | some z =>
      exfalso
      obtain ⟨x, hx1, hx2⟩ := fns_some (l := .c id off) (ws := ws) (by rw [hf]; rfl)
      have := unW_fns hu x (by rw [hl]; exact List.mem_append_left _ (List.mem_reverse.2 hx1))
      rw [this] at hx2; cases hx2
  dsimp only
  rw [this, Option.getD_none]
theorem evBody_ok {wf : List FuncId} {call : CallF} (hT : TbOk P tb) (hm : P.follows .mixedOrders = true) (hc : CallFOk P call) {fuel f : Nat} {vs : List Nat} {fn : Func} (hf : P.funcs[f]? = some fn) {args : List Sv} {σ : St} {y : FLeaf} (h : (evBody tb wf call fuel vs fn args σ).At y) : FunOk P f args σ y.1 y.2 := by
  unfold evBody at h
  split at h
  · rename_i c hb hle
    rw [Nat.ble_eq] at hle
    rw [fEnt_eq] at h
    have hev : ((evC tb wf call fn.ntmps [] fuel c (enterSt (withVr σ vs) args)).bind (outF tb fn.results.toList)).Every fun x => Ext (enterSt (withVr σ vs) args) x.2 := by
      refine Tree.Every.bind (evC_every.mono fun x hx => ?_)
      rw [outF_eq]
      split
      · trivial
      · trivial
      · split
        · exact hx
        · trivial
    have hkeep := ext_keep ((joinF_every hev).at_ h)
    obtain ⟨x, h1, h2⟩ := joinF_ok hev h
    obtain ⟨z, k1, k2⟩ := Tree.At_bind.1 h1
    have hz : ∃ v, evRes tb z.2 fn.results.toList = some v ∧ x = (v, z.2) ∧ (z.1 = .normal ∨ z.1 = .ret) := by
      rw [outF_eq] at k2
      split at k2
      · exact k2.elim
      · exact k2.elim
      · rename_i n1 n2
        split at k2
        · rename_i v hv
          refine ⟨v, hv, k2.symm, ?_⟩
          cases hz : z.1 with
          | normal => exact Or.inl rfl
          | ret => exact Or.inr rfl
          | exit i => exact absurd hz (n2 i)
          | stop k => exact absurd hz (n1 k)
        · exact k2.elim
    obtain ⟨v, hv, rfl, hzo⟩ := hz
    refine ⟨fun C e w hp ha => ?_, fun id off hk hu => hkeep id off hk hu⟩
    -- every name that is known stands fast
    let C' : Ctx := { M := C.M, w0 := C.w0, pin := fun id => if (look σ (.k id)).isSome = true then some (e.pl id) else none, pinn := fun c => if (look σ (.n c)).isSome = true then some (e.nm c) else none }
    have hp' : Hp C' e (look σ) w := ⟨hp.new, hp.cl, hp.ar, hp.oq, hp.cp, hp.inj, hp.lt, hp.mu, ⟨(fun id p hh => by
      simp only [C'] at hh
      split at hh
      · rename_i hk; exact ⟨Option.some.inj hh, hk⟩
      · cases hh), (fun c m hh => by
      simp only [C'] at hh
      split at hh
      · rename_i hk; exact ⟨Option.some.inj hh, hk⟩
      · cases hh)⟩, hp.fr⟩
    have hR := enter_rel (σ := withVr σ vs) (by rw [look_withVr]; exact hp') (by rw [look_withVr]; exact ha) hle
    refine calls_of_wp hf hb ?_
    refine evC_ok hT hm hc fuel c (enterSt (withVr σ vs) args) z k1 C' e _ w _ hR fun e' a' w' hR' => ?_
    have hws : WS (look (enterSt (withVr σ vs) args)) := hR.ws
    obtain ⟨s1, s2, s3⟩ := h2 hws
    have hpins : (∀ id p, C'.pin id = some p → kn (look (enterSt (withVr σ vs) args)) id) ∧ ∀ d m, C'.pinn d = some m → knn (look (enterSt (withVr σ vs) args)) d := ⟨fun id p hh => (hp'.pin.1 id p hh).2, fun c m hh => (hp'.pin.2 c m hh).2⟩
    have hRy := s1 C' fn.ntmps e' a' w' hpins hR'
    obtain ⟨r1, r2⟩ := evRes_run hT hR' hv
    have hA : Agree (look σ) e e' := by
      refine ⟨fun id hid => (hRy.hp.pin.1 id (e.pl id) ?_).1, fun c hc => (hRy.hp.pin.2 c (e.nm c) ?_).1⟩
      · exact if_pos hid
      · exact if_pos hc
    have hfin : Hp C e' (look y.2) w' := by
      have q := hRy.hp
      refine ⟨q.new, q.cl, q.ar, q.oq, q.cp, q.inj, q.lt, q.mu, ⟨fun id p hh => ?_, fun c m hh => ?_⟩, q.fr⟩
      · obtain ⟨p1, p2⟩ := hp.pin.1 id p hh
        have := q.pin.1 id (e.pl id) (if_pos p2)
        exact ⟨this.1.trans p1, this.2⟩
      · obtain ⟨p1, p2⟩ := hp.pin.2 c m hh
        have := q.pin.2 c (e.nm c) (if_pos p2)
        exact ⟨this.1.trans p1, this.2⟩
    have hend : ∃ v', (results fn a'.tmps).run P w' = .ok v' w' ∧ ∃ e'', Agree (look σ) e e'' ∧ Hp C e'' (look y.2) w' ∧ Ending.returned v' = .returned (y.1.den e'') ∧ y.1.sc (look y.2) :=
      ⟨_, r1, e', hA, hfin, by rw [s2 e'], s3 r2⟩
    rcases hzo with ho | ho
    · rw [ho]
      exact ⟨hR'.df, hend⟩
    · rw [ho]
      exact ⟨hR'.df, hend⟩
  · exact h.elim
theorem evFn_ok {wf : List FuncId} {sp : FuncId → Option (List Sv → St → Tree FLeaf)} {fuel : Nat} (hT : TbOk P tb) (hm : P.follows .mixedOrders = true) (hs : SpOk P sp) : ∀ d, CallFOk P (evFn tb wf sp fuel d)
  | 0 => fun _ _ _ _ h => h.elim
  | d + 1 => by
    intro f args σ Φ h
    obtain ⟨y, h1, h2⟩ := h.at_
    refine ⟨y.1, y.2, h2, ?_⟩
    simp only [evFn] at h1
    split at h1
    · rename_i g hg; exact hs f g hg args σ y h1
    · split at h1
      · rename_i fn hfn
        exact evBody_ok hT hm (evFn_ok hT hm hs d) (hT.fn.at_ hfn).1 h1
      · exact h1.elim
theorem evFn_at {wf : List FuncId} {sp : FuncId → Option (List Sv → St → Tree FLeaf)} {fuel : Nat} (hT : TbOk P tb) (hm : P.follows .mixedOrders = true) (hs : SpOk P sp) {d f : Nat} {args : List Sv} {σ : St} {y : FLeaf} (h : (evFn tb wf sp fuel d f args σ).At y) : FunOk P f args σ y.1 y.2 := by
  obtain ⟨v, σ', h1, h2⟩ := evFn_ok hT hm hs d f args σ (· = y) h.eqAll
  obtain rfl := h1
  exact h2
end
end Sx
end Go.Proofs.YtlhponankanlmaaGreatDoor

/-
  A function that is handed values without addresses: its contract in any world. An argument that is made of numbers and truth values alone, in names.
-/
set_option linter.unusedSimpArgs false
set_option linter.unusedVariables false
namespace Go.Proofs.YtlhponankanlmaaGreatDoor
namespace Sx
open Go.RowKit Go.ChangeShapes Go.WideShapes

section
variable {P : Program} {tb : Tb}

/-- Nothing is known. -/
def st0 : St := ⟨[], [], 0, [], 0, [], []⟩
theorem look_st0 (l : Loc) : look st0 l = none := by cases l <;> rfl
def env0 : Env := ⟨fun _ => (0, 0), fun _ => 0⟩
def ctx0 (w : World) : Ctx := ⟨fun b => w.heap.size ≤ b, fun _ => none, fun _ => none, w⟩
theorem hp0 (w : World) (hG : Glob0 w := by exact glob0 w) : Hp (ctx0 w) env0 (look st0) w := by
  refine ⟨fun _ h => h, ?_, ?_, ?_, ?_, ?_, ?_, ?_, ⟨fun _ _ h => (by cases h), fun _ _ h => (by cases h)⟩, ⟨rfl, rfl, rfl, Nat.le_refl _, fun _ _ _ => rfl, hG⟩⟩ <;> (try clear hG) <;>
    intros <;> simp only [look_st0, reduceCtorEq] at *
/-- Values that hold no names. -/
def Cv.freeB : Cv → Bool
  | .ptr _ _ => false
  | .slc _ _ _ _ => false
  | .fn _ caps => caps.isEmpty
  | _ => true
def Sv.freeB : Sv → Bool
  | .one c => c.freeB
  | .agg cs => cs.all Cv.freeB
  | .tup vs => vs.all fun p => p.2.all Cv.freeB
theorem Cv.free_sc {c : Cv} (h : c.freeB = true) (s : Sto) : c.sc s := by
  cases c with
  | ptr id off => cases h
  | slc id off l c => cases h
  | fn f caps => obtain rfl := List.isEmpty_iff.1 h; exact fun p hp => by cases hp
  | _ => trivial
theorem Sv.free_sc {v : Sv} (h : v.freeB = true) (s : Sto) : v.sc s := by
  cases v with
  | one c => exact Cv.free_sc h s
  | agg cs => exact fun c hc => Cv.free_sc (List.all_eq_true.1 h c hc) s
  | tup vs => exact fun p hp c hc => Cv.free_sc (List.all_eq_true.1 (List.all_eq_true.1 h p hp) c hc) s
theorem Sv.free_den {v : Sv} (h : v.freeB = true) (e e' : Env) : v.den e' = v.den e :=
  Sv.den_agree (s := fun _ => none) ⟨fun _ h => (by cases h), fun _ h => (by cases h)⟩ (Sv.free_sc h _)

/-- The contract in any world. -/
theorem FunOk.any {f : FuncId} {args : List Sv} {v : Sv} {σ' : St} (h : FunOk P f args st0 v σ') (hargs : ∀ x ∈ args, x.freeB = true) (hv : v.freeB = true) (w : World) (hG : Glob0 w := by exact glob0 w) :
    Calls P f (args.map (·.den env0)).toArray w fun en w' => en = .returned (v.den env0) ∧ Below w.heap.size w w' := by
  refine (h.run (ctx0 w) env0 w (hp0 w hG) fun x hx => Sv.free_sc (hargs x hx) _).mono fun en w' => ?_
  rintro ⟨e', -, hp, rfl, -⟩
  refine ⟨by rw [Sv.free_den hv e' env0], hp.fr.os, hp.fr.tape, hp.fr.output, hp.fr.size, fun k hk => hp.fr.block k hk ?_⟩
  show ¬ w.heap.size ≤ k
  omega

/-- What is known stays known where nothing that was there is written. -/
theorem Hp.keep {C : Ctx} {e : Env} {s : Sto} {w w' : World} (h : Hp C e s w) (b : Below w.heap.size w w') : Hp C e s w' := by
  have keep : ∀ i b, s (.k i) = some (.bk b) → b.live = true → w'.heap[(e.pl i).1]? = w.heap[(e.pl i).1]? := fun i x hx hl => b.block _ (h.lt i x hx hl)
  refine ⟨h.new, ?_, ?_, ?_, ?_, h.inj, ?_, h.mu, h.pin, ?_⟩
  · intro i off x hx
    obtain ⟨h1, ⟨t, ro, n, cp, h2, h3⟩, h4⟩ := h.cl i off x hx
    exact ⟨h1, ⟨t, ro, n, cp, h2, h3⟩, by rw [World.cell?_of_block (w := w) (keep i _ h2 rfl), h4]⟩
  · intro i t n cp hx off ho
    have hk := keep i _ hx rfl
    rw [World.frozen?_of_block (w := w) hk, World.cell?_of_block (w := w) hk]
    exact h.ar i t n cp hx off ho
  · intro i t ro n f cp hx off ho
    have hk := keep i _ hx rfl
    rw [World.frozen?_of_block (w := w) hk, World.cell?_of_block (w := w) hk]
    exact h.oq i t ro n f cp hx off ho
  · intro i x c es hx hc
    have hl : x.live = true := by cases x <;> first | rfl | cases hc
    obtain ⟨h1, h2, cs, h3, h4⟩ := h.cp i x c es hx hc
    exact ⟨h1, h2, cs, (keep i x hx hl).trans h3, h4⟩
  · intro i x hx hl
    exact Nat.lt_of_lt_of_le (h.lt i x hx hl) b.size
  · have f := h.fr
    exact ⟨b.os.trans f.os, b.tape.trans f.tape, b.output.trans f.output, Nat.le_trans f.size b.size, fun k hk hM => (b.block k (Nat.lt_of_lt_of_le hk f.size)).trans (f.block k hk hM), f.gl⟩
/-- A function that hands a value back and leaves alone what was there: what a caller's state says of it. -/
theorem FunOk.of_any {f : FuncId} {args : List Sv} {v : Sv} {σ : St} (hv : v.freeB = true) (h : ∀ (e : Env) (w : World), Calls P f (args.map (·.den e)).toArray w fun en w' => en = .returned (v.den e) ∧ Below w.heap.size w w') : FunOk P f args σ v σ := by
  refine ⟨fun C e w hp _ => ?_, KeepL.refl _⟩
  refine (h e w).mono fun en w' => ?_
  rintro ⟨rfl, hb⟩
  exact ⟨e, Agree.refl _ _, hp.keep hb, rfl, Sv.free_sc hv _⟩

theorem FunOk.of_anyG {f : FuncId} {args : List Sv} {v : Sv} {σ : St} (hv : v.freeB = true) (h : ∀ (e : Env) (w : World), Glob0 w → Calls P f (args.map (·.den e)).toArray w fun en w' => en = .returned (v.den e) ∧ Below w.heap.size w w') : FunOk P f args σ v σ := by
  refine ⟨fun C e w hp _ => ?_, KeepL.refl _⟩
  refine (h e w hp.fr.glob0).mono fun en w' => ?_
  rintro ⟨rfl, hb⟩
  exact ⟨e, Agree.refl _ _, hp.keep hb, rfl, Sv.free_sc hv _⟩

/-! The answer is true. -/
def okT : Tree FLeaf → Bool
  | .leaf y => match y.1 with
    | .one (.b b _) => b
    | _ => false
  | .must b t => b && okT t
  | .br b t f => bif b then okT t else okT f
  | .fail => false
theorem okT_at : ∀ {T : Tree FLeaf}, okT T = true → ∃ y l, T.At y ∧ y.1 = .one (.b true l)
  | .leaf y, h => by
    obtain ⟨v, σ⟩ := y
    cases v with
    | one c => cases c with
      | b b l => obtain rfl : b = true := h; exact ⟨_, l, rfl, rfl⟩
      | _ => cases h
    | _ => cases h
  | .must b t, h => by
    obtain ⟨h1, h2⟩ := Bool.and_eq_true_iff.1 (show (b && okT t) = true from h)
    obtain ⟨y, l, h3, h4⟩ := okT_at h2
    exact ⟨y, l, ⟨h1, h3⟩, h4⟩
  | .br b t f, h => by
    have h' : (bif b then okT t else okT f) = true := h
    cases b with
    | true => obtain ⟨y, l, h3, h4⟩ := okT_at (T := t) h'; exact ⟨y, l, Or.inl ⟨rfl, h3⟩, h4⟩
    | false => obtain ⟨y, l, h3, h4⟩ := okT_at (T := f) h'; exact ⟨y, l, Or.inr ⟨rfl, h3⟩, h4⟩
theorem true_any {wf : List FuncId} {sp : FuncId → Option (List Sv → St → Tree FLeaf)} {fuel d f : Nat} (hT : TbOk P tb) (hm : P.follows .mixedOrders = true) (hs : SpOk P sp) {args : List Sv} (hargs : ∀ x ∈ args, x.freeB = true)
    (h : okT (evFn tb wf sp fuel d f args st0) = true) (w : World) (hG : Glob0 w := by exact glob0 w) : Calls P f (args.map (·.den env0)).toArray w fun en w' => en = .returned (.bool true) ∧ Below w.heap.size w w' := by
  obtain ⟨y, l, h1, h2⟩ := okT_at h
  have := (evFn_at hT hm hs h1).any hargs (by rw [h2]; rfl) w hG
  rw [h2] at this
  exact this
theorem spNone : SpOk P fun _ => none := fun _ _ h => by cases h
/-- One function is known to answer true. -/
def spTrue (g : Nat) (f : FuncId) : Option (List Sv → St → Tree FLeaf) := match Nat.beq g f with
  | true => some fun args σ => match args with
    | [] => .leaf (.one (.b true true), σ)
    | _ => .fail
  | false => none
theorem spTrue_okG {g : Nat} (h : ∀ w, Glob0 w → Calls P g #[] w fun en w' => en = .returned (.bool true) ∧ Below w.heap.size w w') : SpOk P (spTrue g) := by
  intro f k hk args σ y hy
  unfold spTrue at hk
  split at hk
  · rename_i hb
    obtain rfl := beq_iff'.1 hb
    obtain rfl := Option.some.inj hk
    cases args with
    | nil => obtain rfl := (show _ = y from hy); exact FunOk.of_anyG rfl fun e w hG => h w hG
    | cons => exact hy.elim
  · cases hk
theorem spTrue_ok {g : Nat} (h : ∀ w, Calls P g #[] w fun en w' => en = .returned (.bool true) ∧ Below w.heap.size w w') : SpOk P (spTrue g) := by
  intro f k hk args σ y hy
  unfold spTrue at hk
  split at hk
  · rename_i hb
    obtain rfl := beq_iff'.1 hb
    obtain rfl := Option.some.inj hk
    cases args with
    | nil => obtain rfl := (show _ = y from hy); exact FunOk.of_any rfl fun e w => h w
    | cons => exact hy.elim
  · cases hk

/-! An argument's leaves. -/
def Lf.ok : Lf → Value → Prop
  | .b, v => ∃ b, v = .bool b
  | .i k, v => ∃ n, v = .int k n ∧ (Lit.int k n).wf = true
inductive All2 {α β : Type} (R : α → β → Prop) : List α → List β → Prop where
  | nil : All2 R [] []
  | cons {a b l m} : R a b → All2 R l m → All2 R (a :: l) (b :: m)
theorem All2.append {α β : Type} {R : α → β → Prop} {l l' : List α} {m m' : List β} (h : All2 R l m) (k : All2 R l' m') : All2 R (l ++ l') (m ++ m') := by
  induction h with
  | nil => exact k
  | cons h _ ih => exact .cons h ih
theorem All2.length {α β : Type} {R : α → β → Prop} {l : List α} {m : List β} (h : All2 R l m) : l.length = m.length := by
  induction h with
  | nil => rfl
  | cons _ _ ih => simp [ih]

section
variable {H : Type} {enc : TypeId × Value → H} {w : World} {base : Nat} {spare : Nat → Bool} {held : Bool}
theorem cellsOf_info (hT : TbOk P tb) {t : TypeId} {i : TypeInfo} (h : tb.info t = some i) : P.cellsOf t = i.size := by simp [Program.cellsOf, hT.info h]
def LvOk (P : Program) (enc : TypeId × Value → H) (w : World) (base : Nat) (spare : Nat → Bool) (held : Bool) (f : TypeId → Option (List Lf)) : Prop :=
  ∀ t ls cs n x, f t = some ls → DataW.trod enc P w base spare held n t cs = some x → All2 Lf.ok ls cs
theorem lvFs_ok (hT : TbOk P tb) {f : TypeId → Option (List Lf)} (hf : LvOk P enc w base spare held f) {m : Nat} {cs : List Value} : ∀ {fs : List Field} {off : Nat} {ls : List Lf}, lvFs tb f fs off = some ls →
    (∀ fd ∈ fs, ∃ x, DataW.trod enc P w base spare held m fd.type ((cs.drop fd.offset).take (P.cellsOf fd.type)) = some x) → All2 Lf.ok ls ((cs.drop off).take ls.length)
  | [], off, ls, h, _ => by
    obtain rfl := Option.some.inj h
    simpa using All2.nil
  | fd :: fs, off, ls, h, hx => by
    simp only [lvFs] at h
    split at h
    · rename_i l i hl hi
      split at h
      · rename_i hb
        obtain ⟨h1, h2⟩ := Bool.and_eq_true_iff.1 hb
        have h1 := beq_iff'.1 h1
        have h2 := beq_iff'.1 h2
        obtain ⟨r, hr, rfl⟩ := Option.map_eq_some_iff.1 h
        obtain ⟨x, hx1⟩ := hx fd List.mem_cons_self
        rw [cellsOf_info hT hi, h1, ← h2] at hx1
        have a1 := hf _ _ _ _ _ hl hx1
        have a2 := lvFs_ok hT hf hr fun g hg => hx g (List.mem_cons_of_mem _ hg)
        rw [← h2, ← List.drop_drop] at a2
        have := a1.append a2
        rw [List.length_append]
        have he : ∀ (L : List Value) (a b : Nat), L.take a ++ (L.drop a).take b = L.take (a + b) := fun L a b => by
          rw [List.take_add]
        rw [← he]
        exact this
      · cases h
    · cases h
theorem lvRep_len {l : List Lf} : ∀ n, (lvRep l n).length = n * l.length
  | 0 => by simp [lvRep]
  | n + 1 => by rw [lvRep, List.length_append, lvRep_len n, Nat.add_mul]; omega
theorem lvRep_ok {l : List Lf} {cs : List Value} {c : Nat} (hc : l.length = c) : ∀ {n k : Nat}, (∀ i, i < n → All2 Lf.ok l ((cs.drop ((k + i) * c)).take c)) → All2 Lf.ok (lvRep l n) ((cs.drop (k * c)).take (n * c))
  | 0, k, _ => by simpa [lvRep] using All2.nil
  | n + 1, k, h => by
    have a1 := h 0 (by omega)
    have a2 := lvRep_ok hc (n := n) (k := k + 1) fun i hi => by
      have := h (i + 1) (by omega)
      rwa [show k + (i + 1) = k + 1 + i by omega] at this
    have := a1.append a2
    rw [Nat.add_zero, show (k + 1) * c = k * c + c by rw [Nat.add_mul]; omega, ← List.drop_drop, ← List.take_add] at this
    rw [lvRep, show (n + 1) * c = c + n * c by rw [Nat.add_mul]; omega]
    exact this
theorem chkLen_some (hT : TbOk P tb) {t : TypeId} {o : Option (List Lf)} {ls : List Lf} (h : chkLen tb t o = some ls) : o = some ls ∧ ls.length = P.cellsOf t := by
  unfold chkLen at h
  split at h
  · rename_i l i hi
    split at h
    · rename_i hb
      obtain rfl := Option.some.inj h
      exact ⟨rfl, by rw [cellsOf_info hT hi]; exact beq_iff'.1 hb⟩
    · cases h
  · cases h
theorem leaves_ok (hT : TbOk P tb) : ∀ d, LvOk P enc w base spare held (leaves tb d)
  | 0 => fun _ _ _ _ _ h => by cases h
  | d + 1 => by
    intro t ls cs n x h hx
    simp only [leaves] at h
    split at h
    · rename_i hu
      obtain rfl := Option.some.inj h
      obtain ⟨b, rfl, _⟩ := DataW.trod_bool (hT.und hu) hx
      exact .cons ⟨b, rfl⟩ .nil
    · rename_i k hu
      obtain rfl := Option.some.inj h
      obtain ⟨v, rfl, _, hw⟩ := DataW.trod_int (hT.und hu) hx
      exact .cons ⟨v, rfl, hw⟩ .nil
    · rename_i fs hu
      obtain ⟨h, hll⟩ := chkLen_some hT h
      obtain ⟨xs, m, _, _, hl, hxl, hg⟩ := DataW.trod_struct (hT.und hu) hx
      have := lvFs_ok hT (leaves_ok hT d) (m := m) (cs := cs) h fun fd hfd => by
        obtain ⟨j, hj⟩ := List.getElem?_of_mem hfd
        have h1 := hg j fd (by rw [← Array.getElem?_toList]; exact hj)
        have hlt : j < xs.length := by
          rw [hxl]
          have := (List.getElem?_eq_some_iff.1 hj).1
          simpa using this
        rw [List.getElem?_eq_getElem hlt] at h1
        exact ⟨_, h1⟩
      rwa [List.drop_zero, hll, ← hl, List.take_length] at this
    · rename_i n' e hu
      split at h
      · rename_i l i hl hi
        split at h
        · rename_i hb
          obtain ⟨h, hll⟩ := chkLen_some hT h
          obtain rfl := Option.some.inj h
          have hb := beq_iff'.1 hb
          obtain ⟨xs, m, _, _, hlen, hxl, hg⟩ := DataW.trod_array (hT.und hu) hx
          have := lvRep_ok (cs := cs) hb (n := n') (k := 0) fun j hj => by
            have h1 := hg j hj
            rw [List.getElem?_eq_getElem (by omega), cellsOf_info hT hi] at h1
            rw [Nat.zero_add]
            exact leaves_ok hT d _ _ _ _ _ hl h1
          rwa [Nat.zero_mul, List.drop_zero, ← hb, ← lvRep_len, hll, ← hlen, List.take_length] at this
        · cases h
      · cases h
    · cases h
end

/-! Leaves in names: the truth value bs j, the number ns j, for leaf j. -/
def Lf.cv (bs : Nat → Bool) (ns : Nat → Int) (j : Nat) : Lf → Cv
  | .b => .b (bs j) false
  | .i k => .i k (ns j) false
def symL (bs : Nat → Bool) (ns : Nat → Int) : Nat → List Lf → List Cv
  | _, [] => []
  | j, l :: ls => l.cv bs ns j :: symL bs ns (j + 1) ls
/-- Each number is one of its kind. -/
def WfL (ns : Nat → Int) (ls : List Lf) : Prop := ∀ j k, ls[j]? = some (.i k) → (Lit.int k (ns j)).wf = true
def getB (cs : List Value) (j : Nat) : Bool := match cs[j]? with
  | some (.bool b) => b
  | _ => false
def getN (cs : List Value) (j : Nat) : Int := match cs[j]? with
  | some (.int _ n) => n
  | _ => 0
theorem symL_of {c0 : List Value} : ∀ {ls : List Lf} {cs : List Value} {j : Nat}, All2 Lf.ok ls cs → (∀ i, cs[i]? = c0[j + i]?) → (∀ e, cs = (symL (getB c0) (getN c0) j ls).map (·.den e)) ∧ ∀ i k, ls[i]? = some (.i k) → (Lit.int k (getN c0 (j + i))).wf = true
  | _, _, j, .nil, _ => ⟨fun _ => rfl, fun i k h => by simp at h⟩
  | l :: ls, c :: cs, j, .cons hc h, hi => by
    obtain ⟨h1, h2⟩ := symL_of (j := j + 1) h fun i => by
      have := hi (i + 1)
      rw [show j + (i + 1) = j + 1 + i by omega] at this
      exact this
    have h0 : c0[j]? = some c := by have := hi 0; simpa using this.symm
    refine ⟨fun e => ?_, fun i k hk => ?_⟩
    · have hd : c = (l.cv (getB c0) (getN c0) j).den e := by
        cases l with
        | b => obtain ⟨b, rfl⟩ := hc; simp [Lf.cv, Cv.den, getB, h0]
        | i k => obtain ⟨n, rfl, _⟩ := hc; simp [Lf.cv, Cv.den, getN, h0]
      rw [symL, List.map_cons, ← h1 e, ← hd]
    · cases i with
      | zero =>
        obtain rfl : l = .i k := by simpa using hk
        obtain ⟨n, rfl, hw⟩ := hc
        simpa [getN, h0] using hw
      | succ i =>
        have := h2 i k (by simpa using hk)
        rwa [show j + 1 + i = j + (i + 1) by omega] at this
theorem symL_free (bs : Nat → Bool) (ns : Nat → Int) : ∀ (ls : List Lf) (j : Nat), (symL bs ns j ls).all Cv.freeB = true
  | [], _ => rfl
  | l :: ls, j => by
    rw [symL, List.all_cons, symL_free bs ns ls]
    cases l <;> rfl

section
variable {H : Type} {enc : TypeId × Value → H} {w : World} {base : Nat} {spare : Nat → Bool} {held : Bool} {t : TypeId} {v : Value} {dt : DataW H} {ps : List MemPlace} {r : Reach} {b0 : Nat}
def isWide (tb : Tb) (t : TypeId) : Bool := match tb.und t with
  | some (.struct _) => true
  | some (.array _ _) => true
  | _ => false
theorem okWide_array {n : Nat} {e : TypeId} (ht : P.underlying t = some (.array n e)) (h : Value.okWide P w r b0 t v) : ∃ cs, v = .agg cs ∧ cs.size = P.cellsOf t := by
  simp only [Value.okWide, ht] at h
  obtain ⟨cs, h1, h2, _⟩ := h
  exact ⟨cs, h1, h2⟩
/-- A struct or an array, in names. -/
theorem open_sym (hT : TbOk P tb) {d : Nat} {ls : List Lf} (hw : isWide tb t = true) (hl : leaves tb d t = some ls) (hv : Value.okWide P w r b0 t v) (h : DataW.Trod enc P w base spare held t v dt ps) :
    ∃ (bs : Nat → Bool) (ns : Nat → Int), v = (Sv.agg (symL bs ns 0 ls)).den env0 ∧ WfL ns ls := by
  have hv' : ∃ cs, v = .agg cs ∧ cs.size = P.cellsOf t := by
    unfold isWide at hw
    split at hw
    · rename_i hu; exact okWide_struct (hT.und hu) hv
    · rename_i hu; exact okWide_array (hT.und hu) hv
    · cases hw
  obtain ⟨cs, rfl, -⟩ := hv'
  obtain ⟨fuel, hf⟩ := h
  have h2 := leaves_ok hT d t ls cs.toList fuel _ hl (by simpa [Value.cells] using hf)
  obtain ⟨h3, h4⟩ := symL_of (c0 := cs.toList) (j := 0) h2 (fun i => by rw [Nat.zero_add])
  refine ⟨getB cs.toList, getN cs.toList, ?_, fun j k hj => by have := h4 j k hj; rwa [Nat.zero_add] at this⟩
  show Value.agg cs = .agg (densA env0 _)
  unfold densA
  rw [← h3 env0]
end
end
end Sx
end Go.Proofs.YtlhponankanlmaaGreatDoor

/-
  The table of the program's types and functions.
-/
set_option linter.unusedSimpArgs false
set_option linter.unusedVariables false
namespace Go.Proofs.YtlhponankanlmaaGreatDoor
open Sx
set_option maxRecDepth 100000

noncomputable def tbl : Tb := { ty := [(0, Tryz.t0), (1, Tryz.t1), (2, Tryz.t2), (3, Tryz.t3), (4, Tryz.t4), (5, Tryz.t5), (6, Tryz.t6), (7, Tryz.t7), (8, Tryz.t8), (9, Tryz.t9), (10, Tryz.t10), (11, Tryz.t11), (12, Tryz.t12), (13, Tryz.t13), (14, Tryz.t14), (15, Tryz.t15), (16, Tryz.t16), (17, Tryz.t17), (18, Tryz.t18), (19, Tryz.t19), (20, Tryz.t20), (21, Tryz.t21), (22, Tryz.t22), (23, Tryz.t23), (24, Tryz.t24), (25, Tryz.t25), (26, Tryz.t26), (27, Tryz.t27), (28, Tryz.t28), (29, Tryz.t29), (30, Tryz.t30), (31, Tryz.t31), (32, Tryz.t32), (33, Tryz.t33), (34, Tryz.t34), (35, Tryz.t35), (36, Tryz.t36), (37, Tryz.t37), (38, Tryz.t38), (39, Tryz.t39), (40, Tryz.t40), (41, Tryz.t41), (42, Tryz.t42), (43, Tryz.t43), (44, Tryz.t44), (45, Tryz.t45), (46, Tryz.t46), (47, Tryz.t47), (48, Tryz.t48), (49, Tryz.t49), (50, Tryz.t50), (51, Tryz.t51), (52, Tryz.t52), (53, Tryz.t53), (54, Tryz.t54), (55, Tryz.t55), (56, Tryz.t56), (57, Tryz.t57), (58, Tryz.t58), (59, Tryz.t59), (60, Tryz.t60), (61, Tryz.t61), (62, Tryz.t62), (63, Tryz.t63), (64, Tryz.t64), (65, Tryz.t65), (66, Tryz.t66), (67, Tryz.t67), (68, Tryz.t68), (69, Tryz.t69), (70, Tryz.t70), (71, Tryz.t71), (72, Tryz.t72), (73, Tryz.t73), (74, Tryz.t74), (75, Tryz.t75), (76, Tryz.t76), (77, Tryz.t77), (78, Tryz.t78), (79, Tryz.t79), (80, Tryz.t80), (81, Tryz.t81), (82, Tryz.t82), (83, Tryz.t83), (84, Tryz.t84), (85, Tryz.t85), (86, Tryz.t86), (87, Tryz.t87), (88, Tryz.t88), (89, Tryz.t89), (90, Tryz.t90), (91, Tryz.t91), (92, Tryz.t92), (93, Tryz.t93), (94, Tryz.t94), (95, Tryz.t95), (96, Tryz.t96), (97, Tryz.t97), (98, Tryz.t98), (99, Tryz.t99), (100, Tryz.t100), (101, Tryz.t101), (102, Tryz.t102), (103, Tryz.t103), (104, Tryz.t104), (105, Tryz.t105), (106, Tryz.t106), (107, Tryz.t107), (108, Tryz.t108), (109, Tryz.t109), (110, Tryz.t110), (111, Tryz.t111), (112, Tryz.t112), (113, Tryz.t113), (114, Tryz.t114), (115, Tryz.t115), (116, Tryz.t116), (117, Tryz.t117), (118, Tryz.t118), (119, Tryz.t119), (120, Tryz.t120), (121, Tryz.t121), (122, Tryz.t122), (123, Tryz.t123), (124, Tryz.t124), (125, Tryz.t125), (126, Tryz.t126), (127, Tryz.t127), (128, Tryz.t128), (129, Tryz.t129), (130, Tryz.t130), (131, Tryz.t131), (132, Tryz.t132), (133, Tryz.t133), (134, Tryz.t134), (135, Tryz.t135), (136, Tryz.t136), (137, Tryz.t137), (138, Tryz.t138), (139, Tryz.t139), (140, Tryz.t140), (141, Tryz.t141), (142, Tryz.t142), (143, Tryz.t143), (144, Tryz.t144), (145, Tryz.t145), (146, Tryz.t146), (147, Tryz.t147), (148, Tryz.t148), (149, Tryz.t149), (150, Tryz.t150), (151, Tryz.t151), (152, Tryz.t152), (153, Tryz.t153), (154, Tryz.t154), (155, Tryz.t155), (156, Tryz.t156), (157, Tryz.t157), (158, Tryz.t158), (159, Tryz.t159), (160, Tryz.t160), (161, Tryz.t161), (162, Tryz.t162), (163, Tryz.t163), (164, Tryz.t164), (165, Tryz.t165), (166, Tryz.t166), (167, Tryz.t167), (168, Tryz.t168), (169, Tryz.t169), (170, Tryz.t170), (171, Tryz.t171), (172, Tryz.t172), (173, Tryz.t173), (174, Tryz.t174), (175, Tryz.t175), (176, Tryz.t176), (177, Tryz.t177), (178, Tryz.t178), (179, Tryz.t179), (180, Tryz.t180), (181, Tryz.t181), (182, Tryz.t182), (183, Tryz.t183), (184, Tryz.t184), (185, Tryz.t185), (186, Tryz.t186), (187, Tryz.t187), (188, Tryz.t188), (189, Tryz.t189), (190, Tryz.t190), (191, Tryz.t191), (192, Tryz.t192), (193, Tryz.t193), (194, Tryz.t194), (195, Tryz.t195), (196, Tryz.t196), (197, Tryz.t197), (198, Tryz.t198), (199, Tryz.t199), (200, Tryz.t200), (201, Tryz.t201), (202, Tryz.t202), (203, Tryz.t203), (204, Tryz.t204), (205, Tryz.t205), (206, Tryz.t206), (207, Tryz.t207), (208, Tryz.t208), (209, Tryz.t209), (210, Tryz.t210), (211, Tryz.t211), (212, Tryz.t212), (213, Tryz.t213), (214, Tryz.t214), (215, Tryz.t215), (216, Tryz.t216), (217, Tryz.t217), (218, Tryz.t218), (219, Tryz.t219), (220, Tryz.t220), (221, Tryz.t221), (222, Tryz.t222), (223, Tryz.t223), (224, Tryz.t224), (225, Tryz.t225), (226, Tryz.t226), (227, Tryz.t227), (228, Tryz.t228), (229, Tryz.t229), (230, Tryz.t230), (231, Tryz.t231), (232, Tryz.t232), (233, Tryz.t233), (234, Tryz.t234), (235, Tryz.t235), (236, Tryz.t236), (237, Tryz.t237), (238, Tryz.t238), (239, Tryz.t239), (240, Tryz.t240), (241, Tryz.t241), (242, Tryz.t242), (243, Tryz.t243), (244, Tryz.t244), (245, Tryz.t245), (246, Tryz.t246), (247, Tryz.t247), (248, Tryz.t248), (249, Tryz.t249), (250, Tryz.t250), (251, Tryz.t251), (252, Tryz.t252), (253, Tryz.t253), (254, Tryz.t254), (255, Tryz.t255), (256, Tryz.t256), (257, Tryz.t257), (258, Tryz.t258), (259, Tryz.t259), (260, Tryz.t260), (261, Tryz.t261), (262, Tryz.t262), (263, Tryz.t263), (264, Tryz.t264), (265, Tryz.t265), (266, Tryz.t266), (267, Tryz.t267), (268, Tryz.t268), (269, Tryz.t269), (270, Tryz.t270)], fn := [(2, Tryz.f2), (3, Tryz.f3), (4, Tryz.f4), (5, Tryz.f5), (6, Tryz.f6), (7, Tryz.f7), (8, Tryz.f8), (9, Tryz.f9), (10, Tryz.f10), (11, Tryz.f11), (12, Tryz.f12), (13, Tryz.f13), (14, Tryz.f14), (15, Tryz.f15), (16, Tryz.f16), (17, Tryz.f17), (18, Tryz.f18), (19, Tryz.f19), (20, Tryz.f20), (21, Tryz.f21), (22, Tryz.f22), (23, Tryz.f23), (24, Tryz.f24), (25, Tryz.f25), (26, Tryz.f26), (27, Tryz.f27), (28, Tryz.f28), (29, Tryz.f29), (30, Tryz.f30), (31, Tryz.f31), (32, Tryz.f32), (33, Tryz.f33), (34, Tryz.f34), (35, Tryz.f35), (36, Tryz.f36), (37, Tryz.f37), (38, Tryz.f38), (39, Tryz.f39), (40, Tryz.f40), (41, Tryz.f41), (42, Tryz.f42), (43, Tryz.f43), (44, Tryz.f44), (45, Tryz.f45), (46, Tryz.f46), (47, Tryz.f47), (48, Tryz.f48), (49, Tryz.f49), (50, Tryz.f50), (51, Tryz.f51), (52, Tryz.f52), (53, Tryz.f53), (54, Tryz.f54), (55, Tryz.f55), (56, Tryz.f56), (57, Tryz.f57), (58, Tryz.f58), (59, Tryz.f59), (60, Tryz.f60), (61, Tryz.f61), (62, Tryz.f62), (63, Tryz.f63), (64, Tryz.f64), (65, Tryz.f65), (66, Tryz.f66), (67, Tryz.f67), (68, Tryz.f68), (69, Tryz.f69), (70, Tryz.f70), (71, Tryz.f71), (72, Tryz.f72), (73, Tryz.f73), (74, Tryz.f74), (75, Tryz.f75), (76, Tryz.f76), (77, Tryz.f77), (78, Tryz.f78), (79, Tryz.f79), (80, Tryz.f80), (81, Tryz.f81), (82, Tryz.f82), (83, Tryz.f83), (84, Tryz.f84), (85, Tryz.f85), (86, Tryz.f86), (87, Tryz.f87), (88, Tryz.f88), (89, Tryz.f89), (90, Tryz.f90), (91, Tryz.f91), (92, Tryz.f92), (93, Tryz.f93), (94, Tryz.f94), (95, Tryz.f95), (96, Tryz.f96), (97, Tryz.f97), (98, Tryz.f98), (99, Tryz.f99), (100, Tryz.f100), (101, Tryz.f101), (102, Tryz.f102), (103, Tryz.f103), (104, Tryz.f104), (105, Tryz.f105), (106, Tryz.f106), (107, Tryz.f107), (108, Tryz.f108), (109, Tryz.f109), (110, Tryz.f110), (111, Tryz.f111), (112, Tryz.f112), (113, Tryz.f113), (114, Tryz.f114), (115, Tryz.f115), (116, Tryz.f116), (117, Tryz.f117), (118, Tryz.f118), (119, Tryz.f119), (120, Tryz.f120), (121, Tryz.f121), (122, Tryz.f122), (123, Tryz.f123), (124, Tryz.f124), (125, Tryz.f125), (126, Tryz.f126), (127, Tryz.f127), (128, Tryz.f128), (129, Tryz.f129), (130, Tryz.f130), (131, Tryz.f131), (132, Tryz.f132), (133, Tryz.f133), (134, Tryz.f134), (135, Tryz.f135), (136, Tryz.f136), (137, Tryz.f137), (138, Tryz.f138), (139, Tryz.f139), (140, Tryz.f140), (141, Tryz.f141), (142, Tryz.f142), (143, Tryz.f143), (144, Tryz.f144), (145, Tryz.f145), (146, Tryz.f146), (147, Tryz.f147), (148, Tryz.f148), (149, Tryz.f149), (150, Tryz.f150), (151, Tryz.f151), (152, Tryz.f152), (153, Tryz.f153), (154, Tryz.f154), (155, Tryz.f155), (156, Tryz.f156), (157, Tryz.f157), (158, Tryz.f158), (159, Tryz.f159), (160, Tryz.f160), (161, Tryz.f161), (162, Tryz.f162), (163, Tryz.f163), (164, Tryz.f164), (165, Tryz.f165), (168, Tryz.f168), (169, Tryz.f169), (171, Tryz.f171), (172, Tryz.f172), (173, Tryz.f173), (174, Tryz.f174), (175, Tryz.f175), (176, Tryz.f176), (177, Tryz.f177), (178, Tryz.f178), (179, Tryz.f179), (180, Tryz.f180)], eq := [0, 1, 2, 3, 4, 5, 6, 7, 8, 9, 10, 11, 12, 15, 16, 17, 20, 21, 22, 23, 24, 25, 26, 27, 28, 29, 30, 31, 32, 33, 34, 35, 36, 37, 38, 39, 40, 41, 42, 43, 44, 45, 46, 47, 48, 49, 50, 51, 52, 53, 54, 55, 56, 57, 58, 59, 60, 61, 62, 63, 64, 65, 66, 67, 68, 69, 70, 71, 72, 73, 74, 75, 76, 77, 78, 79, 80, 81, 82, 83, 84, 85, 86, 87, 88, 89, 90, 91, 92, 93, 94, 95, 96, 97, 98, 99, 100, 101, 102, 105, 106, 107, 108, 109, 110, 111, 112, 113, 114, 115, 116, 117, 118, 119, 120, 121, 122, 123, 124, 125, 126, 127, 128, 129, 130, 131, 132, 133, 134, 135, 136, 137, 138, 139, 140, 141, 142, 143, 144, 145, 146, 147, 148, 149, 150, 151, 152, 153, 154, 155, 156, 157, 158, 159, 160, 161, 162, 163, 164, 165, 166, 167, 168, 169, 170, 171, 172, 173, 174, 175, 176, 177, 178, 179, 180, 181, 182, 183, 184, 185, 186, 187, 188, 189, 190, 191, 192, 193, 194, 195, 196, 197, 198, 199, 200, 201, 202, 203, 204, 205, 206, 207, 208, 209, 210, 211, 212, 213, 214, 215, 216, 217, 218, 219, 220, 221, 222, 223, 224, 225, 226, 227, 228, 229, 230, 231, 232, 233, 234, 235, 236, 237, 238, 239, 240, 241, 242, 243, 246, 247, 248, 249, 250, 251, 252, 253, 254, 255, 256, 257, 258, 261, 264, 265, 266, 267, 268] }
theorem tbl_ty : TyOk Tryz.prog tbl.ty := ⟨Tryz.type0, Tryz.type1, Tryz.type2, Tryz.type3, Tryz.type4, Tryz.type5, Tryz.type6, Tryz.type7, Tryz.type8, Tryz.type9, Tryz.type10, Tryz.type11, Tryz.type12, Tryz.type13, Tryz.type14, Tryz.type15, Tryz.type16, Tryz.type17, Tryz.type18, Tryz.type19, Tryz.type20, Tryz.type21, Tryz.type22, Tryz.type23, Tryz.type24, Tryz.type25, Tryz.type26, Tryz.type27, Tryz.type28, Tryz.type29, Tryz.type30, Tryz.type31, Tryz.type32, Tryz.type33, Tryz.type34, Tryz.type35, Tryz.type36, Tryz.type37, Tryz.type38, Tryz.type39, Tryz.type40, Tryz.type41, Tryz.type42, Tryz.type43, Tryz.type44, Tryz.type45, Tryz.type46, Tryz.type47, Tryz.type48, Tryz.type49, Tryz.type50, Tryz.type51, Tryz.type52, Tryz.type53, Tryz.type54, Tryz.type55, Tryz.type56, Tryz.type57, Tryz.type58, Tryz.type59, Tryz.type60, Tryz.type61, Tryz.type62, Tryz.type63, Tryz.type64, Tryz.type65, Tryz.type66, Tryz.type67, Tryz.type68, Tryz.type69, Tryz.type70, Tryz.type71, Tryz.type72, Tryz.type73, Tryz.type74, Tryz.type75, Tryz.type76, Tryz.type77, Tryz.type78, Tryz.type79, Tryz.type80, Tryz.type81, Tryz.type82, Tryz.type83, Tryz.type84, Tryz.type85, Tryz.type86, Tryz.type87, Tryz.type88, Tryz.type89, Tryz.type90, Tryz.type91, Tryz.type92, Tryz.type93, Tryz.type94, Tryz.type95, Tryz.type96, Tryz.type97, Tryz.type98, Tryz.type99, Tryz.type100, Tryz.type101, Tryz.type102, Tryz.type103, Tryz.type104, Tryz.type105, Tryz.type106, Tryz.type107, Tryz.type108, Tryz.type109, Tryz.type110, Tryz.type111, Tryz.type112, Tryz.type113, Tryz.type114, Tryz.type115, Tryz.type116, Tryz.type117, Tryz.type118, Tryz.type119, Tryz.type120, Tryz.type121, Tryz.type122, Tryz.type123, Tryz.type124, Tryz.type125, Tryz.type126, Tryz.type127, Tryz.type128, Tryz.type129, Tryz.type130, Tryz.type131, Tryz.type132, Tryz.type133, Tryz.type134, Tryz.type135, Tryz.type136, Tryz.type137, Tryz.type138, Tryz.type139, Tryz.type140, Tryz.type141, Tryz.type142, Tryz.type143, Tryz.type144, Tryz.type145, Tryz.type146, Tryz.type147, Tryz.type148, Tryz.type149, Tryz.type150, Tryz.type151, Tryz.type152, Tryz.type153, Tryz.type154, Tryz.type155, Tryz.type156, Tryz.type157, Tryz.type158, Tryz.type159, Tryz.type160, Tryz.type161, Tryz.type162, Tryz.type163, Tryz.type164, Tryz.type165, Tryz.type166, Tryz.type167, Tryz.type168, Tryz.type169, Tryz.type170, Tryz.type171, Tryz.type172, Tryz.type173, Tryz.type174, Tryz.type175, Tryz.type176, Tryz.type177, Tryz.type178, Tryz.type179, Tryz.type180, Tryz.type181, Tryz.type182, Tryz.type183, Tryz.type184, Tryz.type185, Tryz.type186, Tryz.type187, Tryz.type188, Tryz.type189, Tryz.type190, Tryz.type191, Tryz.type192, Tryz.type193, Tryz.type194, Tryz.type195, Tryz.type196, Tryz.type197, Tryz.type198, Tryz.type199, Tryz.type200, Tryz.type201, Tryz.type202, Tryz.type203, Tryz.type204, Tryz.type205, Tryz.type206, Tryz.type207, Tryz.type208, Tryz.type209, Tryz.type210, Tryz.type211, Tryz.type212, Tryz.type213, Tryz.type214, Tryz.type215, Tryz.type216, Tryz.type217, Tryz.type218, Tryz.type219, Tryz.type220, Tryz.type221, Tryz.type222, Tryz.type223, Tryz.type224, Tryz.type225, Tryz.type226, Tryz.type227, Tryz.type228, Tryz.type229, Tryz.type230, Tryz.type231, Tryz.type232, Tryz.type233, Tryz.type234, Tryz.type235, Tryz.type236, Tryz.type237, Tryz.type238, Tryz.type239, Tryz.type240, Tryz.type241, Tryz.type242, Tryz.type243, Tryz.type244, Tryz.type245, Tryz.type246, Tryz.type247, Tryz.type248, Tryz.type249, Tryz.type250, Tryz.type251, Tryz.type252, Tryz.type253, Tryz.type254, Tryz.type255, Tryz.type256, Tryz.type257, Tryz.type258, Tryz.type259, Tryz.type260, Tryz.type261, Tryz.type262, Tryz.type263, Tryz.type264, Tryz.type265, Tryz.type266, Tryz.type267, Tryz.type268, Tryz.type269, Tryz.type270, trivial⟩
theorem tbl_fn : FnOk Tryz.prog tbl.fn := ⟨⟨Tryz.func2, fun args w => Tryz.call2 args w⟩, ⟨Tryz.func3, fun args w => Tryz.call3 args w⟩, ⟨Tryz.func4, fun args w => Tryz.call4 args w⟩, ⟨Tryz.func5, fun args w => Tryz.call5 args w⟩, ⟨Tryz.func6, fun args w => Tryz.call6 args w⟩, ⟨Tryz.func7, fun args w => Tryz.call7 args w⟩, ⟨Tryz.func8, fun args w => Tryz.call8 args w⟩, ⟨Tryz.func9, fun args w => Tryz.call9 args w⟩, ⟨Tryz.func10, fun args w => Tryz.call10 args w⟩, ⟨Tryz.func11, fun args w => Tryz.call11 args w⟩, ⟨Tryz.func12, fun args w => Tryz.call12 args w⟩, ⟨Tryz.func13, fun args w => Tryz.call13 args w⟩, ⟨Tryz.func14, fun args w => Tryz.call14 args w⟩, ⟨Tryz.func15, fun args w => Tryz.call15 args w⟩, ⟨Tryz.func16, fun args w => Tryz.call16 args w⟩, ⟨Tryz.func17, fun args w => Tryz.call17 args w⟩, ⟨Tryz.func18, fun args w => Tryz.call18 args w⟩, ⟨Tryz.func19, fun args w => Tryz.call19 args w⟩, ⟨Tryz.func20, fun args w => Tryz.call20 args w⟩, ⟨Tryz.func21, fun args w => Tryz.call21 args w⟩, ⟨Tryz.func22, fun args w => Tryz.call22 args w⟩, ⟨Tryz.func23, fun args w => Tryz.call23 args w⟩, ⟨Tryz.func24, fun args w => Tryz.call24 args w⟩, ⟨Tryz.func25, fun args w => Tryz.call25 args w⟩, ⟨Tryz.func26, fun args w => Tryz.call26 args w⟩, ⟨Tryz.func27, fun args w => Tryz.call27 args w⟩, ⟨Tryz.func28, fun args w => Tryz.call28 args w⟩, ⟨Tryz.func29, fun args w => Tryz.call29 args w⟩, ⟨Tryz.func30, fun args w => Tryz.call30 args w⟩, ⟨Tryz.func31, fun args w => Tryz.call31 args w⟩, ⟨Tryz.func32, fun args w => Tryz.call32 args w⟩, ⟨Tryz.func33, fun args w => Tryz.call33 args w⟩, ⟨Tryz.func34, fun args w => Tryz.call34 args w⟩, ⟨Tryz.func35, fun args w => Tryz.call35 args w⟩, ⟨Tryz.func36, fun args w => Tryz.call36 args w⟩, ⟨Tryz.func37, fun args w => Tryz.call37 args w⟩, ⟨Tryz.func38, fun args w => Tryz.call38 args w⟩, ⟨Tryz.func39, fun args w => Tryz.call39 args w⟩, ⟨Tryz.func40, fun args w => Tryz.call40 args w⟩, ⟨Tryz.func41, fun args w => Tryz.call41 args w⟩, ⟨Tryz.func42, fun args w => Tryz.call42 args w⟩, ⟨Tryz.func43, fun args w => Tryz.call43 args w⟩, ⟨Tryz.func44, fun args w => Tryz.call44 args w⟩, ⟨Tryz.func45, fun args w => Tryz.call45 args w⟩, ⟨Tryz.func46, fun args w => Tryz.call46 args w⟩, ⟨Tryz.func47, fun args w => Tryz.call47 args w⟩, ⟨Tryz.func48, fun args w => Tryz.call48 args w⟩, ⟨Tryz.func49, fun args w => Tryz.call49 args w⟩, ⟨Tryz.func50, fun args w => Tryz.call50 args w⟩, ⟨Tryz.func51, fun args w => Tryz.call51 args w⟩, ⟨Tryz.func52, fun args w => Tryz.call52 args w⟩, ⟨Tryz.func53, fun args w => Tryz.call53 args w⟩, ⟨Tryz.func54, fun args w => Tryz.call54 args w⟩, ⟨Tryz.func55, fun args w => Tryz.call55 args w⟩, ⟨Tryz.func56, fun args w => Tryz.call56 args w⟩, ⟨Tryz.func57, fun args w => Tryz.call57 args w⟩, ⟨Tryz.func58, fun args w => Tryz.call58 args w⟩, ⟨Tryz.func59, fun args w => Tryz.call59 args w⟩, ⟨Tryz.func60, fun args w => Tryz.call60 args w⟩, ⟨Tryz.func61, fun args w => Tryz.call61 args w⟩, ⟨Tryz.func62, fun args w => Tryz.call62 args w⟩, ⟨Tryz.func63, fun args w => Tryz.call63 args w⟩, ⟨Tryz.func64, fun args w => Tryz.call64 args w⟩, ⟨Tryz.func65, fun args w => Tryz.call65 args w⟩, ⟨Tryz.func66, fun args w => Tryz.call66 args w⟩, ⟨Tryz.func67, fun args w => Tryz.call67 args w⟩, ⟨Tryz.func68, fun args w => Tryz.call68 args w⟩, ⟨Tryz.func69, fun args w => Tryz.call69 args w⟩, ⟨Tryz.func70, fun args w => Tryz.call70 args w⟩, ⟨Tryz.func71, fun args w => Tryz.call71 args w⟩, ⟨Tryz.func72, fun args w => Tryz.call72 args w⟩, ⟨Tryz.func73, fun args w => Tryz.call73 args w⟩, ⟨Tryz.func74, fun args w => Tryz.call74 args w⟩, ⟨Tryz.func75, fun args w => Tryz.call75 args w⟩, ⟨Tryz.func76, fun args w => Tryz.call76 args w⟩, ⟨Tryz.func77, fun args w => Tryz.call77 args w⟩, ⟨Tryz.func78, fun args w => Tryz.call78 args w⟩, ⟨Tryz.func79, fun args w => Tryz.call79 args w⟩, ⟨Tryz.func80, fun args w => Tryz.call80 args w⟩, ⟨Tryz.func81, fun args w => Tryz.call81 args w⟩, ⟨Tryz.func82, fun args w => Tryz.call82 args w⟩, ⟨Tryz.func83, fun args w => Tryz.call83 args w⟩, ⟨Tryz.func84, fun args w => Tryz.call84 args w⟩, ⟨Tryz.func85, fun args w => Tryz.call85 args w⟩, ⟨Tryz.func86, fun args w => Tryz.call86 args w⟩, ⟨Tryz.func87, fun args w => Tryz.call87 args w⟩, ⟨Tryz.func88, fun args w => Tryz.call88 args w⟩, ⟨Tryz.func89, fun args w => Tryz.call89 args w⟩, ⟨Tryz.func90, fun args w => Tryz.call90 args w⟩, ⟨Tryz.func91, fun args w => Tryz.call91 args w⟩, ⟨Tryz.func92, fun args w => Tryz.call92 args w⟩, ⟨Tryz.func93, fun args w => Tryz.call93 args w⟩, ⟨Tryz.func94, fun args w => Tryz.call94 args w⟩, ⟨Tryz.func95, fun args w => Tryz.call95 args w⟩, ⟨Tryz.func96, fun args w => Tryz.call96 args w⟩, ⟨Tryz.func97, fun args w => Tryz.call97 args w⟩, ⟨Tryz.func98, fun args w => Tryz.call98 args w⟩, ⟨Tryz.func99, fun args w => Tryz.call99 args w⟩, ⟨Tryz.func100, fun args w => Tryz.call100 args w⟩, ⟨Tryz.func101, fun args w => Tryz.call101 args w⟩, ⟨Tryz.func102, fun args w => Tryz.call102 args w⟩, ⟨Tryz.func103, fun args w => Tryz.call103 args w⟩, ⟨Tryz.func104, fun args w => Tryz.call104 args w⟩, ⟨Tryz.func105, fun args w => Tryz.call105 args w⟩, ⟨Tryz.func106, fun args w => Tryz.call106 args w⟩, ⟨Tryz.func107, fun args w => Tryz.call107 args w⟩, ⟨Tryz.func108, fun args w => Tryz.call108 args w⟩, ⟨Tryz.func109, fun args w => Tryz.call109 args w⟩, ⟨Tryz.func110, fun args w => Tryz.call110 args w⟩, ⟨Tryz.func111, fun args w => Tryz.call111 args w⟩, ⟨Tryz.func112, fun args w => Tryz.call112 args w⟩, ⟨Tryz.func113, fun args w => Tryz.call113 args w⟩, ⟨Tryz.func114, fun args w => Tryz.call114 args w⟩, ⟨Tryz.func115, fun args w => Tryz.call115 args w⟩, ⟨Tryz.func116, fun args w => Tryz.call116 args w⟩, ⟨Tryz.func117, fun args w => Tryz.call117 args w⟩, ⟨Tryz.func118, fun args w => Tryz.call118 args w⟩, ⟨Tryz.func119, fun args w => Tryz.call119 args w⟩, ⟨Tryz.func120, fun args w => Tryz.call120 args w⟩, ⟨Tryz.func121, fun args w => Tryz.call121 args w⟩, ⟨Tryz.func122, fun args w => Tryz.call122 args w⟩, ⟨Tryz.func123, fun args w => Tryz.call123 args w⟩, ⟨Tryz.func124, fun args w => Tryz.call124 args w⟩, ⟨Tryz.func125, fun args w => Tryz.call125 args w⟩, ⟨Tryz.func126, fun args w => Tryz.call126 args w⟩, ⟨Tryz.func127, fun args w => Tryz.call127 args w⟩, ⟨Tryz.func128, fun args w => Tryz.call128 args w⟩, ⟨Tryz.func129, fun args w => Tryz.call129 args w⟩, ⟨Tryz.func130, fun args w => Tryz.call130 args w⟩, ⟨Tryz.func131, fun args w => Tryz.call131 args w⟩, ⟨Tryz.func132, fun args w => Tryz.call132 args w⟩, ⟨Tryz.func133, fun args w => Tryz.call133 args w⟩, ⟨Tryz.func134, fun args w => Tryz.call134 args w⟩, ⟨Tryz.func135, fun args w => Tryz.call135 args w⟩, ⟨Tryz.func136, fun args w => Tryz.call136 args w⟩, ⟨Tryz.func137, fun args w => Tryz.call137 args w⟩, ⟨Tryz.func138, fun args w => Tryz.call138 args w⟩, ⟨Tryz.func139, fun args w => Tryz.call139 args w⟩, ⟨Tryz.func140, fun args w => Tryz.call140 args w⟩, ⟨Tryz.func141, fun args w => Tryz.call141 args w⟩, ⟨Tryz.func142, fun args w => Tryz.call142 args w⟩, ⟨Tryz.func143, fun args w => Tryz.call143 args w⟩, ⟨Tryz.func144, fun args w => Tryz.call144 args w⟩, ⟨Tryz.func145, fun args w => Tryz.call145 args w⟩, ⟨Tryz.func146, fun args w => Tryz.call146 args w⟩, ⟨Tryz.func147, fun args w => Tryz.call147 args w⟩, ⟨Tryz.func148, fun args w => Tryz.call148 args w⟩, ⟨Tryz.func149, fun args w => Tryz.call149 args w⟩, ⟨Tryz.func150, fun args w => Tryz.call150 args w⟩, ⟨Tryz.func151, fun args w => Tryz.call151 args w⟩, ⟨Tryz.func152, fun args w => Tryz.call152 args w⟩, ⟨Tryz.func153, fun args w => Tryz.call153 args w⟩, ⟨Tryz.func154, fun args w => Tryz.call154 args w⟩, ⟨Tryz.func155, fun args w => Tryz.call155 args w⟩, ⟨Tryz.func156, fun args w => Tryz.call156 args w⟩, ⟨Tryz.func157, fun args w => Tryz.call157 args w⟩, ⟨Tryz.func158, fun args w => Tryz.call158 args w⟩, ⟨Tryz.func159, fun args w => Tryz.call159 args w⟩, ⟨Tryz.func160, fun args w => Tryz.call160 args w⟩, ⟨Tryz.func161, fun args w => Tryz.call161 args w⟩, ⟨Tryz.func162, fun args w => Tryz.call162 args w⟩, ⟨Tryz.func163, fun args w => Tryz.call163 args w⟩, ⟨Tryz.func164, fun args w => Tryz.call164 args w⟩, ⟨Tryz.func165, fun args w => Tryz.call165 args w⟩, ⟨Tryz.func168, fun args w => Tryz.call168 args w⟩, ⟨Tryz.func169, fun args w => Tryz.call169 args w⟩, ⟨Tryz.func171, fun args w => Tryz.call171 args w⟩, ⟨Tryz.func172, fun args w => Tryz.call172 args w⟩, ⟨Tryz.func173, fun args w => Tryz.call173 args w⟩, ⟨Tryz.func174, fun args w => Tryz.call174 args w⟩, ⟨Tryz.func175, fun args w => Tryz.call175 args w⟩, ⟨Tryz.func176, fun args w => Tryz.call176 args w⟩, ⟨Tryz.func177, fun args w => Tryz.call177 args w⟩, ⟨Tryz.func178, fun args w => Tryz.call178 args w⟩, ⟨Tryz.func179, fun args w => Tryz.call179 args w⟩, ⟨Tryz.func180, fun args w => Tryz.call180 args w⟩, trivial⟩
theorem tbl_eq : (tbl.eq.all fun t => !Tryz.prog.stoodInHeld t && !Tryz.prog.eqGuardType Tryz.prog.depth t) = true := by kernel_rfl
theorem tbl_ok : TbOk Tryz.prog tbl := ⟨tbl_ty, tbl_fn, fun t ht => by
  have h := List.all_eq_true.1 tbl_eq t ht
  simpa using h⟩
theorem tbl_any : Tryz.prog.follows .mixedOrders = true := by kernel_rfl
end Go.Proofs.YtlhponankanlmaaGreatDoor

/-
  Functions that are told by a rule: what they hand back depends on their arguments' values alone.
-/
set_option linter.unusedSimpArgs false
set_option linter.unusedVariables false
namespace Go.Proofs.YtlhponankanlmaaGreatDoor
namespace Sx
open Go.RowKit

section
variable {P : Program} {tb : Tb}
/-- The rules of some functions. -/
abbrev Rules := List (Nat × (List Sv → Option Sv))
def spR (l : Rules) (f : FuncId) : Option (List Sv → St → Tree FLeaf) := match alook l f with
  | some g => some fun args σ => match g args with
    | some v => .leaf (v, σ)
    | none => .fail
  | none => none
/-- A rule is right. -/
def RuleOk (P : Program) (f : FuncId) (g : List Sv → Option Sv) : Prop := ∀ args v, g args = some v → v.freeB = true ∧ ∀ (e : Env) (w : World), Calls P f (args.map (·.den e)).toArray w fun en w' => en = .returned (v.den e) ∧ Below w.heap.size w w'
def RulesOk (P : Program) : Rules → Prop
  | [] => True
  | (f, g) :: l => RuleOk P f g ∧ RulesOk P l
theorem RulesOk.at_ : ∀ {l : Rules}, RulesOk P l → ∀ {f g}, alook l f = some g → RuleOk P f g
  | [], _, _, _, h => by cases h
  | (k, g) :: l, hl, f, g', h => by
    simp only [alook] at h
    cases c : Nat.beq k f with
    | true =>
      rw [c] at h
      obtain rfl := beq_iff'.1 c
      obtain rfl : g = g' := by simpa using h
      exact hl.1
    | false => rw [c] at h; exact RulesOk.at_ hl.2 h
theorem spR_ok {l : Rules} (h : RulesOk P l) : SpOk P (spR l) := by
  intro f k hk args σ y hy
  unfold spR at hk
  split at hk
  · rename_i g hg
    obtain rfl := Option.some.inj hk
    simp only [] at hy
    split at hy
    · rename_i v hv
      obtain rfl := (show _ = y from hy)
      obtain ⟨h1, h2⟩ := h.at_ hg args v hv
      exact FunOk.of_any h1 h2
    · exact hy.elim
  · cases hk
/-- A rule from another one: what is known where a value is asked for in other words. -/
theorem calls_den {f : FuncId} {args : List Sv} {w : World} {a : Array Value} {v v' : Value} (h : Calls P f (args.map (·.den env0)).toArray w fun en w' => en = .returned v ∧ Below w.heap.size w w') (ha : (args.map (·.den env0)).toArray = a) (hv : v = v') :
    Calls P f a w fun en w' => en = .returned v' ∧ Below w.heap.size w w' := by subst ha hv; exact h
/-- What a tree hands back where it has one way that holds. -/
def rdB : Tree FLeaf → Bool
  | .leaf y => match y.1 with
    | .one (.b b _) => b
    | _ => false
  | .must _ t => rdB t
  | .br b t f => bif b then rdB t else rdB f
  | .fail => false
def isB : Tree FLeaf → Bool
  | .leaf y => match y.1 with
    | .one (.b _ _) => true
    | _ => false
  | .must b t => b && isB t
  | .br b t f => bif b then isB t else isB f
  | .fail => false
theorem rdB_at : ∀ {T : Tree FLeaf}, isB T = true → ∃ y l, T.At y ∧ y.1 = .one (.b (rdB T) l)
  | .leaf y, h => by
    obtain ⟨v, σ⟩ := y
    cases v with
    | one c => cases c with
      | b b l => exact ⟨_, l, rfl, rfl⟩
      | _ => cases h
    | _ => cases h
  | .must b t, h => by
    obtain ⟨h1, h2⟩ := Bool.and_eq_true_iff.1 (show (b && isB t) = true from h)
    obtain ⟨y, l, h3, h4⟩ := rdB_at h2
    exact ⟨y, l, ⟨h1, h3⟩, h4⟩
  | .br b t f, h => by
    have h' : (bif b then isB t else isB f) = true := h
    cases b with
    | true => obtain ⟨y, l, h3, h4⟩ := rdB_at (T := t) h'; exact ⟨y, l, Or.inl ⟨rfl, h3⟩, h4⟩
    | false => obtain ⟨y, l, h3, h4⟩ := rdB_at (T := f) h'; exact ⟨y, l, Or.inr ⟨rfl, h3⟩, h4⟩
/-- A truth value, from numbers: by evaluation, in any world. -/
theorem bool_any {wf : List FuncId} {sp : FuncId → Option (List Sv → St → Tree FLeaf)} {fuel d f : Nat} (hT : TbOk P tb) (hm : P.follows .mixedOrders = true) (hs : SpOk P sp) {args : List Sv} (hargs : ∀ x ∈ args, x.freeB = true)
    (h : isB (evFn tb wf sp fuel d f args st0) = true) {r : Bool} (hr : rdB (evFn tb wf sp fuel d f args st0) = r) (e : Env) (w : World) (hG : Glob0 w := by exact glob0 w) : Calls P f (args.map (·.den e)).toArray w fun en w' => en = .returned (.bool r) ∧ Below w.heap.size w w' := by
  obtain ⟨y, l, h1, h2⟩ := rdB_at h
  have := (evFn_at hT hm hs h1).any hargs (by rw [h2]; rfl) w hG
  rw [h2, hr] at this
  have he : args.map (·.den e) = args.map (·.den env0) := List.map_congr_left fun x hx => Sv.free_den (hargs x hx) env0 e
  rw [he]
  exact this
def spOr (a b : FuncId → Option (List Sv → St → Tree FLeaf)) (f : FuncId) : Option (List Sv → St → Tree FLeaf) := match a f with
  | some g => some g
  | none => b f
theorem spOr_ok {a b : FuncId → Option (List Sv → St → Tree FLeaf)} (ha : SpOk P a) (hb : SpOk P b) : SpOk P (spOr a b) := by
  intro f g hg
  unfold spOr at hg
  split at hg
  · rename_i k hk; exact ha f g (hk.trans hg)
  · exact hb f g hg
end
end Sx
end Go.Proofs.YtlhponankanlmaaGreatDoor

/-
  A function that only reads: what is known of it at one state is known at every state that has the same blocks under other names.
-/
set_option linter.unusedSimpArgs false
set_option linter.unusedVariables false
namespace Go.Proofs.YtlhponankanlmaaGreatDoor
namespace Sx
open Go.RowKit

section
variable {P : Program} {tb : Tb}
def Pv.ren (ρ : Nat → Nat) : Pv → Pv
  | .ptr id off => .ptr (ρ id) off
  | p => p
def Cv.ren (ρ : Nat → Nat) : Cv → Cv
  | .ptr id off => .ptr (ρ id) off
  | .slc id off len cap => .slc (ρ id) off len cap
  | .fn f caps => .fn f (caps.map (Pv.ren ρ))
  | c => c
def Sv.ren (ρ : Nat → Nat) : Sv → Sv
  | .one c => .one (c.ren ρ)
  | .agg cs => .agg (cs.map (Cv.ren ρ))
  | .tup vs => .tup (vs.map fun p => (p.1, p.2.map (Cv.ren ρ)))
def Env.ren (e : Env) (ρ : Nat → Nat) : Env := ⟨fun id => e.pl (ρ id), e.nm⟩
theorem Pv.ren_den (ρ : Nat → Nat) (e : Env) (p : Pv) : (p.ren ρ).den e = p.den (e.ren ρ) := by cases p <;> rfl
theorem Sn.ren_den (ρ : Nat → Nat) (e : Env) (n : Sn) : n.den (e.ren ρ) = n.den e := by cases n <;> rfl
theorem Cv.ren_den (ρ : Nat → Nat) (e : Env) (c : Cv) : (c.ren ρ).den e = c.den (e.ren ρ) := by
  cases c with
  | ptr id off => simp only [Cv.ren, Cv.den, Sn.ren_den]; rfl
  | slc id off len cap => simp only [Cv.ren, Cv.den, Sn.ren_den]; rfl
  | fn f caps => simp only [Cv.ren, Cv.den, List.map_map, Function.comp_def, Pv.ren_den]
  | _ => rfl
theorem densA_ren (ρ : Nat → Nat) (e : Env) (cs : List Cv) : densA e (cs.map (Cv.ren ρ)) = densA (e.ren ρ) cs := by
  unfold densA
  rw [List.map_map]
  congr 1
  exact List.map_congr_left fun c _ => Cv.ren_den ρ e c
theorem Sv.ren_den (ρ : Nat → Nat) (e : Env) (v : Sv) : (v.ren ρ).den e = v.den (e.ren ρ) := by
  cases v with
  | one c => exact Cv.ren_den ρ e c
  | agg cs => simp only [Sv.ren, Sv.den, densA_ren]
  | tup vs =>
    simp only [Sv.ren, Sv.den, List.map_map]
    congr 2
    refine List.map_congr_left fun p _ => ?_
    simp only [Function.comp, compDen, densA_ren, List.map_map]
    congr 2
    exact List.map_congr_left fun c _ => Cv.ren_den ρ e c
/-- The blocks of a state that a function reads: each is one of the other state's. -/
def SameCells (ρ : Nat → Nat) (cs cs1 : List Cv) : Prop := cs1.length = cs.length ∧ ∀ (e : Env) (j : Nat), (cs1[j]?).map (·.den e) = (cs[j]?).map (·.den (e.ren ρ))
def BkIs (σ : St) (ρ : Nat → Nat) : List (Nat × Blk) → Prop
  | [] => True
  | (id, b) :: l => (∃ t cs cs1 ro cp, b = .ar t true cs none ∧ alook σ.bk (ρ id) = some (.ar t ro cs1 cp) ∧ SameCells ρ cs cs1) ∧ BkIs σ ρ l
theorem BkIs.at_ {σ : St} {ρ : Nat → Nat} : ∀ {l : List (Nat × Blk)}, BkIs σ ρ l → ∀ {id b}, alook l id = some b → ∃ t cs cs1 ro cp, b = .ar t true cs none ∧ alook σ.bk (ρ id) = some (.ar t ro cs1 cp) ∧ SameCells ρ cs cs1
  | [], _, _, _, h => by cases h
  | (k, c) :: l, hl, id, b, h => by
    simp only [alook] at h
    cases hk : Nat.beq k id with
    | true =>
      rw [hk] at h
      obtain rfl := beq_iff'.1 hk
      obtain rfl : c = b := by simpa using h
      exact hl.1
    | false => rw [hk] at h; exact BkIs.at_ hl.2 h
def closedB (σ : St) : Bool := σ.bk.all fun p => p.2.inB (σ.bk.map (·.1)) []
theorem alook_mem {α : Type} : ∀ {l : List (Nat × α)} {n : Nat} {v : α}, alook l n = some v → (n, v) ∈ l
  | [], _, _, h => by cases h
  | (k, u) :: l, n, v, h => by
    simp only [alook] at h
    cases hk : Nat.beq k n with
    | true =>
      rw [hk] at h
      obtain rfl := beq_iff'.1 hk
      obtain rfl : u = v := by simpa using h
      exact List.mem_cons_self
    | false => rw [hk] at h; exact List.mem_cons_of_mem _ (alook_mem h)
theorem alook_isSome {α : Type} : ∀ {l : List (Nat × α)} {n : Nat}, n ∈ l.map (·.1) → (alook l n).isSome = true
  | [], _, h => by cases h
  | (k, u) :: l, n, h => by
    simp only [alook]
    cases hk : Nat.beq k n with
    | true => rfl
    | false =>
      rw [List.map_cons, List.mem_cons] at h
      rcases h with rfl | h
      · rw [Nat.beq_refl] at hk; cases hk
      · exact alook_isSome h
theorem ren_hp {σ0 σ : St} {ρ : Nat → Nat} (hb : BkIs σ ρ σ0.bk) (hc : closedB σ0 = true) {C : Ctx} {e : Env} {w : World} (hp : Hp C e (look σ) w) : Hp (ctx0 w) (e.ren ρ) (look σ0) w := by
  have blk : ∀ id b, look σ0 (.k id) = some (.bk b) → ∃ t cs cs1 ro cp, alook σ0.bk id = some (.ar t true cs none) ∧ b = .ar t true cs.length none ∧ alook σ.bk (ρ id) = some (.ar t ro cs1 cp) := by
    intro id b h
    simp only [look, Option.map_eq_some_iff] at h
    obtain ⟨b0, h1, h2⟩ := h
    obtain ⟨t, cs, cs1, ro, cp, rfl, h3, _⟩ := hb.at_ h1
    exact ⟨t, cs, cs1, ro, cp, h1, by simpa [Blk.info] using h2.symm, h3⟩
  have S : Sub (stoOf (σ0.bk.map (·.1)) []) (look σ0) := by
    refine ⟨fun id h => ?_, fun c h => ?_⟩
    · unfold kn at h ⊢
      simp only [stoOf] at h
      split at h
      · rename_i hm
        obtain ⟨b, hb'⟩ := Option.isSome_iff_exists.1 (alook_isSome (memb_iff.1 hm))
        simp only [look, hb']; rfl
      · cases h
    · unfold knn at h
      simp only [stoOf] at h
      split at h
      · rename_i hm; cases hm
      · cases h
  refine ⟨fun _ h => h, ?_, ?_, ?_, ?_, ?_, ?_, ?_, ⟨fun _ _ h => (by cases h), fun _ _ h => (by cases h)⟩, ⟨rfl, rfl, rfl, Nat.le_refl _, fun _ _ _ => rfl, hp.fr.glob0⟩⟩
  · intro id off v hv
    have hv' := hv
    simp only [look, Option.bind_eq_some_iff] at hv'
    obtain ⟨b0, h1, h2⟩ := hv'
    obtain ⟨t, cs, cs1, ro, cp, rfl, h3, hsame⟩ := hb.at_ h1
    obtain ⟨c, h4, h5⟩ := Option.map_eq_some_iff.1 h2
    obtain rfl : c = v := by simpa using h5
    have h4 : cs[off]? = some c := h4
    have hlt := (List.getElem?_eq_some_iff.1 h4).1
    have hin := List.all_eq_true.1 hc _ (alook_mem h1)
    refine ⟨?_, ⟨t, true, cs.length, none, by simp only [look, h1]; rfl, hlt⟩, ?_⟩
    · have : (Blk.ar t true cs none).inB (σ0.bk.map (·.1)) [] = true := hin
      simp only [Blk.inB, Bool.and_eq_true] at this
      exact (Cv.inB_sc (List.all_eq_true.1 this.1 c (List.mem_of_getElem? h4))).sub S
    · have hlt1 : off < cs1.length := by rw [hsame.1]; exact hlt
      have h5 := hsame.2 e off
      rw [h4, List.getElem?_eq_getElem hlt1] at h5
      have h5 : (cs1[off]).den e = c.den (e.ren ρ) := by simpa using h5
      have h6 : look σ (.c (ρ id) off) = some (.cv cs1[off]) := by
        simp only [look, h3, Option.bind_some, Blk.cell, List.getElem?_eq_getElem hlt1, Option.map_some]
      obtain ⟨_, _, h7⟩ := hp.cl _ _ _ h6
      rw [h5] at h7
      exact h7
  · intro id t n cp h
    obtain ⟨t', cs, cs1, ro, cp', _, h2, _⟩ := blk id _ h
    cases h2
  · intro id t ro n f cp h
    obtain ⟨t', cs, cs1, ro, cp', _, h2, _⟩ := blk id _ h
    cases h2
  · intro id b c es h hcp
    obtain ⟨t', cs, cs1, ro, cp', _, rfl, _⟩ := blk id _ h
    cases hcp
  · intro id id' b b' h1 _ h3
    obtain ⟨t', cs, cs1, ro, cp', _, rfl, _⟩ := blk id _ h1
    cases h3
  · intro id b h _
    obtain ⟨t', cs, cs1, ro, cp', _, rfl, h3⟩ := blk id _ h
    exact hp.lt (ρ id) (.ar t' ro cs1.length cp') (by simp only [look, h3]; rfl) rfl
  · intro id b h hr
    obtain ⟨t', cs, cs1, ro, cp', _, rfl, _⟩ := blk id _ h
    cases hr
/-- From one state to every other that has its blocks. -/
theorem FunOk.ren {f : FuncId} {args0 args : List Sv} {σ0 σ0' σ : St} {v : Sv} (h : FunOk P f args0 σ0 v σ0') (ρ : Nat → Nat) (hb : BkIs σ ρ σ0.bk) (hc : closedB σ0 = true) (ha : ∀ e, args.map (·.den e) = args0.map (·.den (e.ren ρ))) (hs : ∀ x ∈ args0, x.sc (look σ0)) (hv : v.freeB = true) : FunOk P f args σ v σ := by
  refine ⟨fun C e w hp _ => ?_, KeepL.refl _⟩
  have h1 := h.run (ctx0 w) (e.ren ρ) w (ren_hp hb hc hp) hs
  rw [ha e]
  refine h1.mono fun en w' => ?_
  rintro ⟨e', -, hp', rfl, -⟩
  have hB : Below w.heap.size w w' := ⟨hp'.fr.os, hp'.fr.tape, hp'.fr.output, hp'.fr.size, fun k hk => hp'.fr.block k hk (by show ¬ w.heap.size ≤ k; omega)⟩
  exact ⟨e, Agree.refl _ _, hp.keep hB, by rw [Sv.free_den hv e' e], Sv.free_sc hv _⟩

/-! Cells of numbers and truth values: what they read as. -/
def isL : List Lf → List Cv → Bool
  | [], [] => true
  | .b :: ls, .b _ _ :: cs => isL ls cs
  | .i k :: ls, .i k' _ _ :: cs => decide (k = k') && isL ls cs
  | _, _ => false
def bOf (cs : List Cv) (j : Nat) : Bool := match cs[j]? with
  | some (.b v _) => v
  | _ => false
def nOf (cs : List Cv) (j : Nat) : Int := match cs[j]? with
  | some (.i _ n _) => n
  | _ => 0
theorem isL_den {c0 : List Cv} : ∀ {ls : List Lf} {cs : List Cv} {j : Nat}, isL ls cs = true → (∀ i, cs[i]? = c0[j + i]?) → ∀ (e e' : Env) (i : Nat), (cs[i]?).map (·.den e) = ((symL (bOf c0) (nOf c0) j ls)[i]?).map (·.den e')
  | [], [], j, _, _ => fun e e' i => by simp [symL]
  | [], _ :: _, _, h, _ => by cases h
  | .b :: _, [], _, h, _ => by cases h
  | .i _ :: _, [], _, h, _ => by cases h
  | l :: ls, c :: cs, j, h, hi => by
    intro e e' i
    have h0 : c0[j]? = some c := by have := hi 0; simpa using this.symm
    have hn : ∀ i, cs[i]? = c0[j + 1 + i]? := fun i => by
      have := hi (i + 1)
      rw [show j + (i + 1) = j + 1 + i by omega] at this
      exact this
    cases i with
    | zero =>
      simp only [symL, List.getElem?_cons_zero, Option.map_some]
      congr 1
      cases l with
      | b => cases c with
        | b v fl => simp [Lf.cv, Cv.den, bOf, h0]
        | _ => cases h
      | i k => cases c with
        | i k' v fl =>
          simp only [isL, Bool.and_eq_true, decide_eq_true_eq] at h
          obtain ⟨rfl, _⟩ := h
          simp [Lf.cv, Cv.den, nOf, h0]
        | _ => cases h
    | succ i =>
      simp only [symL, List.getElem?_cons_succ]
      have h' : isL ls cs = true := by
        cases l with
        | b => cases c with
          | b v fl => exact h
          | _ => cases h
        | i k => cases c with
          | i k' v fl => exact (Bool.and_eq_true_iff.1 h).2
          | _ => cases h
      exact isL_den h' hn e e' i
theorem isL_len : ∀ {ls : List Lf} {cs : List Cv}, isL ls cs = true → cs.length = ls.length
  | [], [], _ => rfl
  | [], _ :: _, h => by cases h
  | .b :: _, [], h => by cases h
  | .i _ :: _, [], h => by cases h
  | .b :: ls, c :: cs, h => by
    cases c with
    | b v fl => simp [isL_len (show isL ls cs = true from h)]
    | _ => cases h
  | .i k :: ls, c :: cs, h => by
    cases c with
    | i k' v fl => simp [isL_len (Bool.and_eq_true_iff.1 h).2]
    | _ => cases h
theorem symL_len (bs : Nat → Bool) (ns : Nat → Int) : ∀ (ls : List Lf) (j : Nat), (symL bs ns j ls).length = ls.length
  | [], _ => rfl
  | _ :: ls, j => by simp [symL, symL_len bs ns ls]
theorem same_isL {ρ : Nat → Nat} {ls : List Lf} {cs : List Cv} (h : isL ls cs = true) : SameCells ρ (symL (bOf cs) (nOf cs) 0 ls) cs :=
  ⟨by rw [isL_len h, symL_len], fun e j => isL_den h (fun i => by rw [Nat.zero_add]) e _ j⟩
theorem same_cons {ρ : Nat → Nat} {c c1 : Cv} {cs cs1 : List Cv} (h0 : ∀ e, c1.den e = c.den (e.ren ρ)) (h : SameCells ρ cs cs1) : SameCells ρ (c :: cs) (c1 :: cs1) := by
  refine ⟨by simp [h.1], fun e j => ?_⟩
  cases j with
  | zero => simp [h0]
  | succ j => simpa using h.2 e j

/-- Rules that look at what their arguments point to. -/
abbrev RulesM := List (Nat × (List Sv → St → Option Sv))
def spM (l : RulesM) (f : FuncId) : Option (List Sv → St → Tree FLeaf) := match alook l f with
  | some g => some fun args σ => match g args σ with
    | some v => .leaf (v, σ)
    | none => .fail
  | none => none
def RuleMOk (P : Program) (f : FuncId) (g : List Sv → St → Option Sv) : Prop := ∀ args σ v, g args σ = some v → FunOk P f args σ v σ
def RulesMOk (P : Program) : RulesM → Prop
  | [] => True
  | (f, g) :: l => RuleMOk P f g ∧ RulesMOk P l
theorem RulesMOk.at_ : ∀ {l : RulesM}, RulesMOk P l → ∀ {f g}, alook l f = some g → RuleMOk P f g
  | [], _, _, _, h => by cases h
  | (k, g) :: l, hl, f, g', h => by
    simp only [alook] at h
    cases c : Nat.beq k f with
    | true =>
      rw [c] at h
      obtain rfl := beq_iff'.1 c
      obtain rfl : g = g' := by simpa using h
      exact hl.1
    | false => rw [c] at h; exact RulesMOk.at_ hl.2 h
theorem spM_ok {l : RulesM} (h : RulesMOk P l) : SpOk P (spM l) := by
  intro f k hk args σ y hy
  unfold spM at hk
  split at hk
  · rename_i g hg
    obtain rfl := Option.some.inj hk
    simp only [] at hy
    split at hy
    · rename_i v hv
      obtain rfl := (show _ = y from hy)
      exact h.at_ hg args σ v hv
    · exact hy.elim
  · cases hk
end
end Sx
end Go.Proofs.YtlhponankanlmaaGreatDoor

/-
  What a function hands back, told in plain numbers and truth values.
-/
set_option linter.unusedSimpArgs false
set_option linter.unusedVariables false
namespace Go.Proofs.YtlhponankanlmaaGreatDoor
namespace Sx
open Go.RowKit

inductive Lv where
  | b (v : Bool)
  | i (k : IntKind) (n : Int)
inductive Vv where
  | one (x : Lv)
  | agg (xs : List Lv)
  | tup (xs : List (Bool × List Lv))
def Lv.cv : Lv → Cv
  | .b v => .b v false
  | .i k n => .i k n false
def Lv.val : Lv → Value
  | .b v => .bool v
  | .i k n => .int k n
def Cv.lv : Cv → Option Lv
  | .b v _ => some (.b v)
  | .i k n _ => some (.i k n)
  | _ => none
def lvs : List Cv → Option (List Lv)
  | [] => some []
  | c :: cs => match c.lv, lvs cs with
    | some x, some xs => some (x :: xs)
    | _, _ => none
def lvt : List (Bool × List Cv) → Option (List (Bool × List Lv))
  | [] => some []
  | p :: ps => match lvs p.2, lvt ps with
    | some x, some xs => some ((p.1, x) :: xs)
    | _, _ => none
def Sv.vv : Sv → Option Vv
  | .one c => c.lv.map .one
  | .agg cs => (lvs cs).map .agg
  | .tup vs => (lvt vs).map .tup
def Vv.sv : Vv → Sv
  | .one x => .one x.cv
  | .agg xs => .agg (xs.map Lv.cv)
  | .tup xs => .tup (xs.map fun p => (p.1, p.2.map Lv.cv))
theorem Cv.lv_den {c : Cv} {x : Lv} (h : c.lv = some x) (e e' : Env) : c.den e = x.cv.den e' := by
  cases c <;> simp only [Cv.lv, Option.some.injEq, reduceCtorEq] at h <;> subst h <;> rfl
theorem lvs_den : ∀ {cs : List Cv} {xs : List Lv}, lvs cs = some xs → ∀ e e', cs.map (·.den e) = (xs.map Lv.cv).map (·.den e')
  | [], xs, h, e, e' => by obtain rfl := Option.some.inj h; rfl
  | c :: cs, xs, h, e, e' => by
    simp only [lvs] at h
    split at h
    · rename_i x xs' h1 h2
      obtain rfl := Option.some.inj h
      simp only [List.map_cons]
      rw [Cv.lv_den h1 e e', lvs_den h2 e e']
    · cases h
theorem lvt_den : ∀ {ps : List (Bool × List Cv)} {xs : List (Bool × List Lv)}, lvt ps = some xs → ∀ e e', ps.map (compDen e) = (xs.map fun p => (p.1, p.2.map Lv.cv)).map (compDen e')
  | [], xs, h, e, e' => by obtain rfl := Option.some.inj h; rfl
  | p :: ps, xs, h, e, e' => by
    simp only [lvt] at h
    split at h
    · rename_i x xs' h1 h2
      obtain rfl := Option.some.inj h
      have h3 := lvs_den h1 e e'
      have h4 := lvt_den h2 e e'
      simp only [List.map_cons]
      rw [h4]
      congr 1
      simp only [compDen, densA]
      rw [h3]
    · cases h
theorem Sv.vv_den {v : Sv} {x : Vv} (h : v.vv = some x) (e e' : Env) : v.den e = x.sv.den e' := by
  cases v with
  | one c =>
    obtain ⟨y, hy, rfl⟩ := Option.map_eq_some_iff.1 h
    exact Cv.lv_den hy e e'
  | agg cs =>
    obtain ⟨y, hy, rfl⟩ := Option.map_eq_some_iff.1 h
    show Value.agg (cs.map _).toArray = Value.agg ((y.map Lv.cv).map _).toArray
    rw [lvs_den hy e e']
  | tup vs =>
    obtain ⟨y, hy, rfl⟩ := Option.map_eq_some_iff.1 h
    show Value.tuple (vs.map _).toArray = Value.tuple ((y.map _).map _).toArray
    rw [lvt_den hy e e']
theorem Lv.cv_free (x : Lv) : x.cv.freeB = true := by cases x <;> rfl
theorem lv_free (xs : List Lv) : (xs.map Lv.cv).all Cv.freeB = true := by
  rw [List.all_eq_true]
  intro c hc
  obtain ⟨x, _, rfl⟩ := List.mem_map.1 hc
  exact Lv.cv_free x
theorem Vv.sv_free (x : Vv) : x.sv.freeB = true := by
  cases x with
  | one x => exact Lv.cv_free x
  | agg xs => exact lv_free xs
  | tup xs =>
    show List.all _ _ = true
    rw [List.all_eq_true]
    intro p hp
    obtain ⟨q, _, rfl⟩ := List.mem_map.1 hp
    exact lv_free q.2

section
variable {P : Program} {tb : Tb}
/-- The one way that is left, what it demands, and what it hands back. -/
def res (T : Tree FLeaf) : Option (List Bool × Vv) := match peelF T with
  | some (l, (v, _)) => match v.vv with
    | some x => some (l, x)
    | none => none
  | none => none
theorem res_at {T : Tree FLeaf} {l : List Bool} {x : Vv} (h : res T = some (l, x)) (hl : ∀ b ∈ l, b = true) : ∃ y, T.At y ∧ y.1.vv = some x := by
  unfold res at h
  split at h
  · rename_i l' v σ hp
    split at h
    · rename_i x' hx
      obtain ⟨rfl, rfl⟩ := Prod.mk.inj (Option.some.inj h)
      exact ⟨(v, σ), peelF_at hp hl, hx⟩
    · cases h
  · cases h
theorem FunOk.val {f : FuncId} {args : List Sv} {σ σ' : St} {v u : Sv} (h : FunOk P f args σ v σ') (hd : ∀ e, v.den e = u.den e) (hu : u.freeB = true) : FunOk P f args σ u σ' := by
  refine ⟨fun C e w hp hs => ?_, h.keep⟩
  refine (h.run C e w hp hs).mono fun en w' => ?_
  rintro ⟨e', h1, h2, rfl, -⟩
  exact ⟨e', h1, h2, by rw [hd e'], Sv.free_sc hu _⟩
theorem res_ok {wf : List FuncId} {sp : FuncId → Option (List Sv → St → Tree FLeaf)} {fuel d f : Nat} (hT : TbOk P tb) (hm : P.follows .mixedOrders = true) (hs : SpOk P sp) {args : List Sv} {σ : St} {l : List Bool} {x : Vv}
    (h : res (evFn tb wf sp fuel d f args σ) = some (l, x)) (hl : ∀ b ∈ l, b = true) : ∃ σ', FunOk P f args σ x.sv σ' := by
  obtain ⟨y, h1, h2⟩ := res_at h hl
  exact ⟨y.2, (evFn_at hT hm hs h1).val (fun e => Sv.vv_den h2 e e) x.sv_free⟩
/-- A function of plain values: what it hands back, in any world. -/
theorem res_any {wf : List FuncId} {sp : FuncId → Option (List Sv → St → Tree FLeaf)} {fuel d f : Nat} (hT : TbOk P tb) (hm : P.follows .mixedOrders = true) (hs : SpOk P sp) {args : List Sv} (hargs : ∀ x ∈ args, x.freeB = true) {l : List Bool} {x : Vv}
    (h : res (evFn tb wf sp fuel d f args st0) = some (l, x)) (hl : ∀ b ∈ l, b = true) (w : World) (hG : Glob0 w := by exact glob0 w) : Calls P f (args.map (·.den env0)).toArray w fun en w' => en = .returned (x.sv.den env0) ∧ Below w.heap.size w w' := by
  obtain ⟨σ', h1⟩ := res_ok hT hm hs h hl
  exact h1.any hargs x.sv_free w hG

/-! Arguments that are numbers and truth values: the names that stand for them. -/
def canon (ls : List Lf) (cs : List Cv) : List Cv := symL (bOf cs) (nOf cs) 0 ls
theorem canon_den {ls : List Lf} {cs : List Cv} (h : isL ls cs = true) (e e' : Env) : (Sv.agg cs).den e = (Sv.agg (canon ls cs)).den e' := by
  show Value.agg (densA e cs) = Value.agg (densA e' (canon ls cs))
  congr 1
  unfold densA canon
  congr 1
  apply List.ext_getElem?
  intro i
  rw [List.getElem?_map, List.getElem?_map]
  exact isL_den h (fun i => by rw [Nat.zero_add]) e e' i
end
end Sx
end Go.Proofs.YtlhponankanlmaaGreatDoor
