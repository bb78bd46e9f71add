/-
  Functions.
-/
import Derived.Test.YtgiinciclnekjaaG2Welds
import Derived.Below
import Derived.ProofKit
import Derived.OpenShut
import Derived.WideShapes
set_option linter.unusedSimpArgs false
set_option linter.unusedVariables false
namespace Go.Proofs.Ytgiinciclnekjaa
namespace Sx
open Go.RowKit

section
variable {P : Program} {tb : Tb}

/-! What is handed back. -/
def resV (tb : Tb) (σ : St) : ResultVar → Option Sv
  | .tmp t => alook σ.tm t
  | .cell a t => match alook σ.tm a with
    | some (.one (.ptr id (.lit k))) => match alook σ.bk id with
      | some (.ar _ _ cs _) => match tb.agg t, tb.info t with
        | some false, _ => (cs[k]?).map .one
        | some true, some i => match Nat.ble (k + i.size) cs.length with
          | true => some (.agg ((cs.drop k).take i.size))
          | false => none
        | _, _ => none
      | _ => none
    | _ => none
def comp : Sv → Option (Bool × List Cv)
  | .one c => some (false, [c])
  | .agg cs => some (true, cs)
  | .tup _ => none
theorem comp_den {v : Sv} {p : Bool × List Cv} (h : comp v = some p) : (∀ e, compDen e p = v.den e) ∧ ∀ s, v.sc s → scs s p.2 := by
  cases v with
  | one c =>
    obtain rfl := Option.some.inj h
    refine ⟨fun e => rfl, fun s hs x hx => ?_⟩
    obtain rfl : x = c := by simpa using hx
    exact hs
  | agg cs => obtain rfl := Option.some.inj h; exact ⟨fun e => rfl, fun s hs => hs⟩
  | tup _ => cases h
def comps (tb : Tb) (σ : St) : List ResultVar → Option (List (Bool × List Cv))
  | [] => some []
  | r :: rs => match (resV tb σ r).bind comp, comps tb σ rs with
    | some p, some ps => some (p :: ps)
    | _, _ => none
def evRes (tb : Tb) (σ : St) : List ResultVar → Option Sv
  | [r] => resV tb σ r
  | rs => (comps tb σ rs).map .tup
def resRun (tmps : Array Value) : ResultVar → Sem Value
  | .tmp t => pure (tmps.getD t undef)
  | .cell p t => do loadVar t (← asAddr (tmps.getD p undef))
theorem resV_run (hT : TbOk P tb) {C : Ctx} {N : Nat} {e : Env} {σ : St} {a : Act} {w : World} (hR : Rel C N e (look σ) a w) {r : ResultVar} {v : Sv} (h : resV tb σ r = some v) :
    (resRun a.tmps r).run P w = .ok (v.den e) w ∧ v.sc (look σ) := by
  cases r with
  | tmp t =>
    have h1 : look σ (.t t) = some (.sv v) := by simp only [look]; rw [show alook σ.tm t = some v from h]; rfl
    obtain ⟨_, h2, h3⟩ := hR.tm t v h1
    exact ⟨by rw [← h2]; rfl, h3⟩
  | cell p t =>
    simp only [resV] at h
    split at h
    · rename_i id k hp
      have h1 : look σ (.t p) = some (.sv (.one (.ptr id (.lit k)))) := by simp only [look, hp]; rfl
      obtain ⟨_, h2, _⟩ := hR.tm p _ h1
      split at h
      · rename_i t' ro cs cp hb
        have hcell : ∀ j c, cs[j]? = some c → w.cell? (e.ad id j) = some (c.den e) ∧ c.sc (look σ) := by
          intro j c hc
          have h3 : look σ (.c id j) = some (.cv c) := by simp only [look, hb, Option.bind_some, Blk.cell, hc, Option.map_some]
          obtain ⟨h4, _, h5⟩ := hR.hp.cl id j c h3
          exact ⟨h5, h4⟩
        split at h
        · rename_i ha
          obtain ⟨c, hc, rfl⟩ := Option.map_eq_some_iff.1 h
          obtain ⟨h3, h4⟩ := hcell k c hc
          refine ⟨?_, h4⟩
          simp only [resRun, Sem.run_bind, h2, den_ptr, asAddr, Sem.run_pure, Result.andThen_ok, loadVar, run_agg hT ha, Bool.false_eq_true, if_false, run_load]
          rw [show Sn.den e (.lit k) = k from rfl, h3]
          rfl
        · rename_i i ha hi
          split at h
          · rename_i hle
            rw [Nat.ble_eq] at hle
            obtain rfl := Option.some.inj h
            have hr := run_loadCells (P := P) w (e.ad id k) i.size (fun j => (cs.getD (k + j) (.val undef)).den e) (fun j hj => by
              rw [ad_add]
              have hlt : k + j < cs.length := by omega
              exact (hcell (k + j) _ (by simp [hlt])).1)
            refine ⟨?_, fun c hc => ?_⟩
            · simp only [resRun, Sem.run_bind, h2, den_ptr, asAddr, Sem.run_pure, Result.andThen_ok, loadVar, run_agg hT ha, if_true, run_size hT hi]
              rw [show Sn.den e (.lit k) = k from rfl, hr]
              try simp only [Result.andThen_ok, den_agg]
              show Result.ok (Value.agg _) w = Result.ok (Value.agg _) w
              congr 2
              unfold densA
              congr 1
              apply List.ext_getElem?
              intro j
              by_cases hj : j < i.size
              · have hlt : k + j < cs.length := by omega
                rw [List.getElem?_map, List.getElem?_range hj, List.getElem?_map, List.getElem?_take_of_lt hj, List.getElem?_drop]
                simp [hlt]
              · rw [List.getElem?_eq_none (by simp; omega), List.getElem?_eq_none (by simp; omega)]
            · obtain ⟨j, hj⟩ := List.mem_iff_getElem?.1 (List.mem_of_mem_drop (List.mem_of_mem_take hc))
              exact (hcell j c hj).2
          · cases h
        · cases h
      · cases h
    · cases h
theorem comps_run (hT : TbOk P tb) {C : Ctx} {N : Nat} {e : Env} {σ : St} {a : Act} {w : World} (hR : Rel C N e (look σ) a w) : ∀ {rs : List ResultVar} {ps : List (Bool × List Cv)}, comps tb σ rs = some ps →
    (rs.mapM (resRun a.tmps)).run P w = .ok (ps.map (compDen e)) w ∧ ∀ p ∈ ps, scs (look σ) p.2
  | [], ps, h => by
    obtain rfl := Option.some.inj h
    exact ⟨rfl, fun p hp => by cases hp⟩
  | r :: rs, ps, h => by
    simp only [comps] at h
    split at h
    · rename_i p ps' hp hps
      obtain rfl := Option.some.inj h
      obtain ⟨v, hv, hc⟩ := Option.bind_eq_some_iff.1 hp
      obtain ⟨d, sc⟩ := comp_den hc
      obtain ⟨r1, r2⟩ := resV_run hT hR hv
      obtain ⟨i1, i2⟩ := comps_run hT hR hps
      refine ⟨?_, fun q hq => ?_⟩
      · rw [List.mapM_cons, Sem.run_bind, r1, Result.andThen_ok, Sem.run_bind, i1, Result.andThen_ok]
        rw [List.map_cons, d e]
        rfl
      · cases hq with
        | head => exact sc _ r2
        | tail _ hq => exact i2 q hq
    · cases h
theorem evRes_run (hT : TbOk P tb) {C : Ctx} {N : Nat} {e : Env} {σ : St} {a : Act} {w : World} (hR : Rel C N e (look σ) a w) {fn : Func} {v : Sv} (h : evRes tb σ fn.results.toList = some v) :
    (results fn a.tmps).run P w = .ok (v.den e) w ∧ v.sc (look σ) := by
  have hres : ∀ vs : List Value, (fn.results.toList.mapM (resRun a.tmps)).run P w = .ok vs w → (results fn a.tmps).run P w = .ok (if h : vs.toArray.size = 1 then vs.toArray[0] else .tuple vs.toArray) w := by
    intro vs hvs
    have he : results fn a.tmps = (do
        let vs ← fn.results.mapM (resRun a.tmps)
        pure (if h : vs.size = 1 then vs[0] else .tuple vs)) := by
      unfold results
      first
        | rfl
        | (congr 2; done)
        | (congr 2; funext r; cases r <;> rfl)
    rw [he, Sem.run_bind, Array.mapM_eq_mapM_toList, Sem.run_map, hvs]
    rfl
  unfold evRes at h
  split at h
  · rename_i r hr
    obtain ⟨r1, r2⟩ := resV_run hT hR h
    refine ⟨?_, r2⟩
    rw [hres [v.den e] (by rw [hr, List.mapM_cons, Sem.run_bind, r1, Result.andThen_ok]; rfl)]
    rfl
  · rename_i hn
    obtain ⟨ps, hps, rfl⟩ := Option.map_eq_some_iff.1 h
    obtain ⟨i1, i2⟩ := comps_run hT hR hps
    refine ⟨?_, i2⟩
    rw [hres _ i1]
    have hlen : ps.length = fn.results.toList.length := by
      have : ∀ (rs : List ResultVar) (ps : List (Bool × List Cv)), comps tb σ rs = some ps → ps.length = rs.length := by
        intro rs
        induction rs with
        | nil => intro ps h; obtain rfl := Option.some.inj h; rfl
        | cons r rs ih =>
          intro ps h
          simp only [comps] at h
          split at h
          · rename_i p ps' _ hps'
            obtain rfl := Option.some.inj h
            simp [ih _ hps']
          · cases h
      exact this _ _ hps
    rw [dif_neg]
    · rfl
    · simp only [List.size_toArray, List.length_map]
      rw [hlen]
      intro h1
      obtain ⟨r, hr⟩ := List.length_eq_one_iff.1 h1
      exact hn r hr

/-! A function's own frame. -/
def argTm : Nat → List Sv → List (Nat × Sv)
  | _, [] => []
  | i, v :: vs => (i, v) :: argTm (i + 1) vs
def enterSt (σ : St) (args : List Sv) : St := { σ with tm := argTm 0 args, lg := [] }
theorem argTm_at : ∀ {args : List Sv} {i t : Nat} {v : Sv}, alook (argTm i args) t = some v → i ≤ t ∧ args[t - i]? = some v
  | [], i, t, v, h => by cases h
  | u :: us, i, t, v, h => by
    simp only [argTm, alook] at h
    cases hb : Nat.beq i t with
    | true =>
      rw [hb] at h
      obtain rfl := beq_iff'.1 hb
      obtain rfl := Option.some.inj h
      exact ⟨Nat.le_refl _, by simp⟩
    | false =>
      rw [hb] at h
      obtain ⟨h1, h2⟩ := argTm_at h
      refine ⟨by omega, ?_⟩
      rw [show t - i = (t - (i + 1)) + 1 by omega]
      simpa using h2
theorem enter_rel {C : Ctx} {e : Env} {σ : St} {w : World} {args : List Sv} {N : Nat} (hp : Hp C e (look σ) w) (ha : ∀ x ∈ args, x.sc (look σ)) (hN : args.length ≤ N) :
    Rel C N e (look (enterSt σ args)) { tmps := (args.map (·.den e)).toArray ++ Array.replicate (N - (args.map (·.den e)).toArray.size) undef, defers := [] } w := by
  have hS : Sub (look σ) (look (enterSt σ args)) := ⟨fun _ h => h, fun _ h => h⟩
  refine ⟨by simp; omega, rfl, ?_, hp.congr fun l hl => ?_⟩
  · intro t v ht
    have h1 : alook (argTm 0 args) t = some v := by
      simp only [look, enterSt] at ht
      obtain ⟨u, hu, he⟩ := Option.map_eq_some_iff.1 ht
      obtain rfl : u = v := by simpa using he
      exact hu
    obtain ⟨_, h2⟩ := argTm_at h1
    rw [Nat.sub_zero] at h2
    have hlt := (List.getElem?_eq_some_iff.1 h2).1
    refine ⟨by omega, ?_, (ha v (List.mem_of_getElem? h2)).sub hS⟩
    show ((args.map (·.den e)).toArray ++ _).getD t undef = _
    rw [Array.getD_eq_getD_getElem?, Array.getElem?_append_left (by simpa using hlt)]
    simp [h2]
  · cases l with
    | t n => exact absurd rfl (hl n)
    | _ => rfl

/-! Ways of a function that meet at its end. -/
abbrev FLeaf := Sv × St
def peelF : Tree FLeaf → Option (List Bool × FLeaf)
  | .leaf x => some ([], x)
  | .must b t => (peelF t).map fun p => (b :: p.1, p.2)
  | _ => none
def join2F (σ : St) (b : Bool) (t f : Tree FLeaf) : Tree FLeaf := match peelF t, peelF f with
  | some (mt, (v, x)), some (mf, (u, y)) => match Sv.ite b v u, merge0 σ b x y with
    | some z, some m => musts (mt.map fun q => !b || q) (musts (mf.map fun q => b || q) (.leaf (z, m)))
    | _, _ => .br b t f
  | _, _ => .br b t f
def joinF (σ : St) : Tree FLeaf → Tree FLeaf
  | .leaf x => .leaf x
  | .must b t => .must b (joinF σ t)
  | .br b t f => join2F σ b (joinF σ t) (joinF σ f)
  | .fail => .fail
theorem peelF_at {l : List Bool} {x : FLeaf} : ∀ {t : Tree FLeaf}, peelF t = some (l, x) → (∀ b ∈ l, b = true) → t.At x
  | .leaf y, h, _ => by
    obtain ⟨_, rfl⟩ := Prod.mk.inj (Option.some.inj h)
    rfl
  | .must b t, h, hl => by
    obtain ⟨p, hp, he⟩ := Option.map_eq_some_iff.1 h
    obtain ⟨rfl, rfl⟩ := Prod.mk.inj he
    exact ⟨hl b List.mem_cons_self, peelF_at hp fun c hc => hl c (List.mem_cons_of_mem _ hc)⟩
  | .br _ _ _, h, _ => by cases h
  | .fail, h, _ => by cases h
theorem peelF_every {p : FLeaf → Prop} {l : List Bool} {x : FLeaf} : ∀ {t : Tree FLeaf}, peelF t = some (l, x) → t.Every p → p x
  | .leaf y, h, k => by
    obtain ⟨_, rfl⟩ := Prod.mk.inj (Option.some.inj h)
    exact k
  | .must b t, h, k => by
    obtain ⟨q, hq, he⟩ := Option.map_eq_some_iff.1 h
    obtain ⟨_, rfl⟩ := Prod.mk.inj he
    exact peelF_every (t := t) hq k
  | .br _ _ _, h, _ => by cases h
  | .fail, h, _ => by cases h
theorem join2F_every {σ : St} {b : Bool} {t f : Tree FLeaf} (ht : t.Every fun x => Ext σ x.2) (hf : f.Every fun x => Ext σ x.2) : (join2F σ b t f).Every fun x => Ext σ x.2 := by
  unfold join2F
  split
  · split
    · rename_i hm; exact every_musts (every_musts (merge_ext hm))
    · exact ⟨ht, hf⟩
  · exact ⟨ht, hf⟩
theorem joinF_every {σ : St} : ∀ {T : Tree FLeaf}, (T.Every fun x => Ext σ x.2) → (joinF σ T).Every fun x => Ext σ x.2
  | .leaf _, h => h
  | .must _ t, h => joinF_every (T := t) h
  | .br _ _ _, h => join2F_every (joinF_every h.1) (joinF_every h.2)
  | .fail, _ => trivial
/-- What a leaf hands back, for the way that it stands for. -/
def StandsF (σ : St) (T : Tree FLeaf) (y : FLeaf) : Prop := ∃ x, T.At x ∧ (WS (look σ) → RelTo σ x.2 y.2 ∧ (∀ e, y.1.den e = x.1.den e) ∧ (x.1.sc (look x.2) → y.1.sc (look y.2)))
theorem join2F_ok {σ : St} {b : Bool} {t f : Tree FLeaf} (ht : t.Every fun x => Ext σ x.2) (hf : f.Every fun x => Ext σ x.2) {y : FLeaf} (h : (join2F σ b t f).At y) : StandsF σ (.br b t f) y := by
  have self : (Tree.br b t f).At y → StandsF σ (.br b t f) y := fun hy => ⟨y, hy, fun _ => ⟨RelTo.refl _ _, fun _ => rfl, id⟩⟩
  unfold join2F at h
  split at h
  · rename_i mt v x mf u z hpt hpf
    split at h
    · rename_i r m hr hm
      rw [At_musts, At_musts] at h
      obtain ⟨h1, h2, h3⟩ := h
      obtain rfl : (r, m) = y := h3
      have ex : Ext σ x := peelF_every hpt ht
      have ez : Ext σ z := peelF_every hpf hf
      obtain ⟨d, sc⟩ := Sv.ite_den hr
      have key : ∀ {X : FLeaf}, X = (if b = true then (v, x) else (u, z)) → (Tree.br b t f).At X → StandsF σ (.br b t f) (r, m) := by
        intro X hX hAt
        refine ⟨X, hAt, fun hws => ⟨?_, fun e => ?_, fun _ => sc _⟩⟩
        · intro C N e a w hp hr'
          obtain ⟨k1, _, k3⟩ := merge_wk hws ex ez hm (if b = true then x else z) rfl
          have hx2 : X.2 = if b = true then x else z := by rw [hX]; cases b <;> rfl
          rw [hx2] at hr'
          exact hr'.wk k1 ⟨fun id p hh => k3.1 id (hp.1 id p hh), fun c q hh => k3.2 c (hp.2 c q hh)⟩
        · rw [d e, hX]; cases b <;> rfl
      by_cases hb : b = true
      · refine key (X := (v, x)) (by rw [if_pos hb]) (Or.inl ⟨hb, peelF_at hpt fun q hq => ?_⟩)
        have := h1 _ (List.mem_map.2 ⟨q, hq, rfl⟩)
        rw [hb] at this; simpa using this
      · have hb' : b = false := by simpa using hb
        refine key (X := (u, z)) (by rw [if_neg hb]) (Or.inr ⟨hb', peelF_at hpf fun q hq => ?_⟩)
        have := h2 _ (List.mem_map.2 ⟨q, hq, rfl⟩)
        rw [hb'] at this; simpa using this
    · exact self h
  · exact self h
theorem joinF_ok {σ : St} : ∀ {T : Tree FLeaf} {y : FLeaf}, (T.Every fun x => Ext σ x.2) → (joinF σ T).At y → StandsF σ T y
  | .leaf x, y, _, h => ⟨y, h, fun _ => ⟨RelTo.refl _ _, fun _ => rfl, id⟩⟩
  | .must b t, y, he, h => by
    obtain ⟨x, h1, h2⟩ := joinF_ok (T := t) he h.2
    exact ⟨x, ⟨h.1, h1⟩, h2⟩
  | .br b t f, y, he, h => by
    obtain ⟨x, h1, h2⟩ := join2F_ok (joinF_every he.1) (joinF_every he.2) h
    rcases h1 with ⟨hb, h1⟩ | ⟨hb, h1⟩
    · obtain ⟨z, k1, k2⟩ := joinF_ok he.1 h1
      exact ⟨z, Or.inl ⟨hb, k1⟩, fun hw => ⟨(k2 hw).1.trans (h2 hw).1, fun e => ((h2 hw).2.1 e).trans ((k2 hw).2.1 e), fun hs => (h2 hw).2.2 ((k2 hw).2.2 hs)⟩⟩
    · obtain ⟨z, k1, k2⟩ := joinF_ok he.2 h1
      exact ⟨z, Or.inr ⟨hb, k1⟩, fun hw => ⟨(k2 hw).1.trans (h2 hw).1, fun e => ((h2 hw).2.1 e).trans ((k2 hw).2.1 e), fun hs => (h2 hw).2.2 ((k2 hw).2.2 hs)⟩⟩
  | .fail, _, _, h => h.elim

def outF (tb : Tb) (rs : List ResultVar) (x : Leaf) : Tree FLeaf := match x.1 with
  | .stop _ => .fail
  | .exit _ => .fail
  | _ => match evRes tb x.2 rs with
    | some v => fV v fun v => .leaf (v, x.2)
    | none => .fail
theorem outF_eq {tb : Tb} {rs : List ResultVar} {x : Leaf} : outF tb rs x = match x.1 with
    | .stop _ => .fail
    | .exit _ => .fail
    | _ => match evRes tb x.2 rs with
      | some v => .leaf (v, x.2)
      | none => .fail := by
  simp only [outF, fV_eq]
/-- The slots of variables. -/
def asgOps : List Oper → List Nat → List Nat
  | [], acc => acc
  | o :: l, acc => match o.op, o.dst with
    | .assign _, some d => asgOps l (bif memb acc d then acc else d :: acc)
    | _, _ => asgOps l acc
def asg : Nat → Code → List Nat → List Nat
  | 0, _, acc => acc
  | n + 1, c, acc => match c with
    | .region _ ops _ => asgOps ops.toList acc
    | .seq a b => asg n b (asg n a acc)
    | .cond _ a b => asg n b (asg n a acc)
    | .block _ b => asg n b acc
    | .loop b => asg n b acc
    | _ => acc
def withVr (σ : St) (l : List Nat) : St := { σ with vr := l }
theorem look_withVr (σ : St) (l : List Nat) : look (withVr σ l) = look σ := by funext x; cases x <;> rfl
/-- What is looked at where ways meet: the variables; for a function f with f + 100000 among 'wf', whether they stand written out, and differ; for one with f + 200000: blocks may lose them. -/
def evVr (wf : List FuncId) (f fuel : Nat) (fn : Func) : List Nat := match fn.body with
  | some c => match memb wf (f + 200000) with
    | true => 99999 :: asg fuel c []
    | false => match memb wf (f + 100000) with
      | true => asg fuel c [] ++ (asg fuel c []).map (· + 100000)
      | false => asg fuel c []
  | none => []
def evBody (tb : Tb) (wf : List FuncId) (call : CallF) (fuel : Nat) (vs : List Nat) (fn : Func) (args : List Sv) (σ : St) : Tree FLeaf := match fn.body, Nat.ble args.length fn.ntmps with
  | some c, true => fEnt (enterSt (withVr σ vs) args) fun σ0 => joinF σ0 ((evC tb wf call fn.ntmps [] fuel c σ0).bind (outF tb fn.results.toList))
  | _, _ => .fail
/-- Functions that are told by what is known of them; the others by their text. -/
def evFn (tb : Tb) (wf : List FuncId) (sp : FuncId → Option (List Sv → St → Tree FLeaf)) (fuel : Nat) : Nat → CallF
  | 0, _, _, _ => .fail
  | d + 1, f, args, σ => match sp f with
    | some g => g args σ
    | none => match alook tb.fn f with
      | some fn => evBody tb wf (evFn tb wf sp fuel d) fuel (evVr wf f fuel fn) fn args σ
      | none => .fail
def SpOk (P : Program) (sp : FuncId → Option (List Sv → St → Tree FLeaf)) : Prop := ∀ f g, sp f = some g → ∀ args σ y, (g args σ).At y → FunOk P f args σ y.1 y.2
theorem unW_fns {lg : List Wr} {id off : Nat} (h : unW lg id off = true) : ∀ x ∈ lg, x.fn (.c id off) = none := by
  intro x hx
  have := List.all_eq_true.1 h x hx
  cases x with
  | cell i o v =>
    simp only [Bool.not_eq_true', Bool.and_eq_false_iff, beq_ff] at this
    simp only [Wr.fn]
    rw [if_neg (fun e => by rcases this with h | h; exact h e.1.symm; exact h e.2.symm)]
  | new i b =>
    simp only [Bool.not_eq_true', beq_ff] at this
    simp only [Wr.fn]
    rw [if_neg (fun e => this e.symm)]
  | _ => rfl
theorem ext_keep {σ0 σ' : St} (h : Ext σ0 σ') : KeepL σ0 σ' := by
  intro id off _ hu
  obtain ⟨ws, hw, hl⟩ := h
  rw [look_apps hw, upds_fns]
  have : fns ws (.c id off) = none := by
    cases hf : fns ws (.c id off) with
    | none => rfl
    | some z =>
      exfalso
      obtain ⟨x, hx1, hx2⟩ := fns_some (l := .c id off) (ws := ws) (by rw [hf]; rfl)
      have := unW_fns hu x (by rw [hl]; exact List.mem_append_left _ (List.mem_reverse.2 hx1))
      rw [this] at hx2; cases hx2
  dsimp only
  rw [this, Option.getD_none]
theorem evBody_ok {wf : List FuncId} {call : CallF} (hT : TbOk P tb) (hm : P.follows .mixedOrders = true) (hc : CallFOk P call) {fuel f : Nat} {vs : List Nat} {fn : Func} (hf : P.funcs[f]? = some fn) {args : List Sv} {σ : St} {y : FLeaf} (h : (evBody tb wf call fuel vs fn args σ).At y) : FunOk P f args σ y.1 y.2 := by
  unfold evBody at h
  split at h
  · rename_i c hb hle
    rw [Nat.ble_eq] at hle
    rw [fEnt_eq] at h
    have hev : ((evC tb wf call fn.ntmps [] fuel c (enterSt (withVr σ vs) args)).bind (outF tb fn.results.toList)).Every fun x => Ext (enterSt (withVr σ vs) args) x.2 := by
      refine Tree.Every.bind (evC_every.mono fun x hx => ?_)
      rw [outF_eq]
      split
      · trivial
      · trivial
      · split
        · exact hx
        · trivial
    have hkeep := ext_keep ((joinF_every hev).at_ h)
    obtain ⟨x, h1, h2⟩ := joinF_ok hev h
    obtain ⟨z, k1, k2⟩ := Tree.At_bind.1 h1
    have hz : ∃ v, evRes tb z.2 fn.results.toList = some v ∧ x = (v, z.2) ∧ (z.1 = .normal ∨ z.1 = .ret) := by
      rw [outF_eq] at k2
      split at k2
      · exact k2.elim
      · exact k2.elim
      · rename_i n1 n2
        split at k2
        · rename_i v hv
          refine ⟨v, hv, k2.symm, ?_⟩
          cases hz : z.1 with
          | normal => exact Or.inl rfl
          | ret => exact Or.inr rfl
          | exit i => exact absurd hz (n2 i)
          | stop k => exact absurd hz (n1 k)
        · exact k2.elim
    obtain ⟨v, hv, rfl, hzo⟩ := hz
    refine ⟨fun C e w hp ha => ?_, fun id off hk hu => hkeep id off hk hu⟩
    -- every name that is known stands fast
    let C' : Ctx := { M := C.M, w0 := C.w0, pin := fun id => if (look σ (.k id)).isSome = true then some (e.pl id) else none, pinn := fun c => if (look σ (.n c)).isSome = true then some (e.nm c) else none }
    have hp' : Hp C' e (look σ) w := ⟨hp.new, hp.cl, hp.ar, hp.oq, hp.cp, hp.inj, hp.lt, hp.mu, ⟨(fun id p hh => by
      simp only [C'] at hh
      split at hh
      · rename_i hk; exact ⟨Option.some.inj hh, hk⟩
      · cases hh), (fun c m hh => by
      simp only [C'] at hh
      split at hh
      · rename_i hk; exact ⟨Option.some.inj hh, hk⟩
      · cases hh)⟩, hp.fr⟩
    have hR := enter_rel (σ := withVr σ vs) (by rw [look_withVr]; exact hp') (by rw [look_withVr]; exact ha) hle
    refine calls_of_wp hf hb ?_
    refine evC_ok hT hm hc fuel c (enterSt (withVr σ vs) args) z k1 C' e _ w _ hR fun e' a' w' hR' => ?_
    have hws : WS (look (enterSt (withVr σ vs) args)) := hR.ws
    obtain ⟨s1, s2, s3⟩ := h2 hws
    have hpins : (∀ id p, C'.pin id = some p → kn (look (enterSt (withVr σ vs) args)) id) ∧ ∀ d m, C'.pinn d = some m → knn (look (enterSt (withVr σ vs) args)) d := ⟨fun id p hh => (hp'.pin.1 id p hh).2, fun c m hh => (hp'.pin.2 c m hh).2⟩
    have hRy := s1 C' fn.ntmps e' a' w' hpins hR'
    obtain ⟨r1, r2⟩ := evRes_run hT hR' hv
    have hA : Agree (look σ) e e' := by
      refine ⟨fun id hid => (hRy.hp.pin.1 id (e.pl id) ?_).1, fun c hc => (hRy.hp.pin.2 c (e.nm c) ?_).1⟩
      · exact if_pos hid
      · exact if_pos hc
    have hfin : Hp C e' (look y.2) w' := by
      have q := hRy.hp
      refine ⟨q.new, q.cl, q.ar, q.oq, q.cp, q.inj, q.lt, q.mu, ⟨fun id p hh => ?_, fun c m hh => ?_⟩, q.fr⟩
      · obtain ⟨p1, p2⟩ := hp.pin.1 id p hh
        have := q.pin.1 id (e.pl id) (if_pos p2)
        exact ⟨this.1.trans p1, this.2⟩
      · obtain ⟨p1, p2⟩ := hp.pin.2 c m hh
        have := q.pin.2 c (e.nm c) (if_pos p2)
        exact ⟨this.1.trans p1, this.2⟩
    have hend : ∃ v', (results fn a'.tmps).run P w' = .ok v' w' ∧ ∃ e'', Agree (look σ) e e'' ∧ Hp C e'' (look y.2) w' ∧ Ending.returned v' = .returned (y.1.den e'') ∧ y.1.sc (look y.2) :=
      ⟨_, r1, e', hA, hfin, by rw [s2 e'], s3 r2⟩
    rcases hzo with ho | ho
    · rw [ho]
      exact ⟨hR'.df, hend⟩
    · rw [ho]
      exact ⟨hR'.df, hend⟩
  · exact h.elim
theorem evFn_ok {wf : List FuncId} {sp : FuncId → Option (List Sv → St → Tree FLeaf)} {fuel : Nat} (hT : TbOk P tb) (hm : P.follows .mixedOrders = true) (hs : SpOk P sp) : ∀ d, CallFOk P (evFn tb wf sp fuel d)
  | 0 => fun _ _ _ _ h => h.elim
  | d + 1 => by
    intro f args σ Φ h
    obtain ⟨y, h1, h2⟩ := h.at_
    refine ⟨y.1, y.2, h2, ?_⟩
    simp only [evFn] at h1
    split at h1
    · rename_i g hg; exact hs f g hg args σ y h1
    · split at h1
      · rename_i fn hfn
        exact evBody_ok hT hm (evFn_ok hT hm hs d) (hT.fn.at_ hfn).1 h1
      · exact h1.elim
theorem evFn_at {wf : List FuncId} {sp : FuncId → Option (List Sv → St → Tree FLeaf)} {fuel : Nat} (hT : TbOk P tb) (hm : P.follows .mixedOrders = true) (hs : SpOk P sp) {d f : Nat} {args : List Sv} {σ : St} {y : FLeaf} (h : (evFn tb wf sp fuel d f args σ).At y) : FunOk P f args σ y.1 y.2 := by
  obtain ⟨v, σ', h1, h2⟩ := evFn_ok hT hm hs d f args σ (· = y) h.eqAll
  obtain rfl := h1
  exact h2
end
end Sx
end Go.Proofs.Ytgiinciclnekjaa

/-
  A function that is handed values without addresses: its contract in any world. An argument that is made of numbers and truth values alone, in names.
-/
set_option linter.unusedSimpArgs false
set_option linter.unusedVariables false
namespace Go.Proofs.Ytgiinciclnekjaa
namespace Sx
open Go.RowKit Go.ChangeShapes Go.WideShapes

section
variable {P : Program} {tb : Tb}

/-- Nothing is known. -/
def st0 : St := ⟨[], [], 0, [], 0, [], []⟩
theorem look_st0 (l : Loc) : look st0 l = none := by cases l <;> rfl
def env0 : Env := ⟨fun _ => (0, 0), fun _ => 0⟩
def ctx0 (w : World) : Ctx := ⟨fun b => w.heap.size ≤ b, fun _ => none, fun _ => none, w⟩
theorem hp0 (w : World) : Hp (ctx0 w) env0 (look st0) w := by
  refine ⟨fun _ h => h, ?_, ?_, ?_, ?_, ?_, ?_, ?_, ⟨fun _ _ h => (by cases h), fun _ _ h => (by cases h)⟩, ⟨rfl, rfl, rfl, Nat.le_refl _, fun _ _ _ => rfl⟩⟩ <;>
    intros <;> simp only [look_st0, reduceCtorEq] at *
/-- Values that hold no names. -/
def Cv.freeB : Cv → Bool
  | .ptr _ _ => false
  | .slc _ _ _ _ => false
  | .fn _ caps => caps.isEmpty
  | _ => true
def Sv.freeB : Sv → Bool
  | .one c => c.freeB
  | .agg cs => cs.all Cv.freeB
  | .tup vs => vs.all fun p => p.2.all Cv.freeB
theorem Cv.free_sc {c : Cv} (h : c.freeB = true) (s : Sto) : c.sc s := by
  cases c with
  | ptr id off => cases h
  | slc id off l c => cases h
  | fn f caps => obtain rfl := List.isEmpty_iff.1 h; exact fun p hp => by cases hp
  | _ => trivial
theorem Sv.free_sc {v : Sv} (h : v.freeB = true) (s : Sto) : v.sc s := by
  cases v with
  | one c => exact Cv.free_sc h s
  | agg cs => exact fun c hc => Cv.free_sc (List.all_eq_true.1 h c hc) s
  | tup vs => exact fun p hp c hc => Cv.free_sc (List.all_eq_true.1 (List.all_eq_true.1 h p hp) c hc) s
theorem Sv.free_den {v : Sv} (h : v.freeB = true) (e e' : Env) : v.den e' = v.den e :=
  Sv.den_agree (s := fun _ => none) ⟨fun _ h => (by cases h), fun _ h => (by cases h)⟩ (Sv.free_sc h _)

/-- The contract in any world. -/
theorem FunOk.any {f : FuncId} {args : List Sv} {v : Sv} {σ' : St} (h : FunOk P f args st0 v σ') (hargs : ∀ x ∈ args, x.freeB = true) (hv : v.freeB = true) (w : World) :
    Calls P f (args.map (·.den env0)).toArray w fun en w' => en = .returned (v.den env0) ∧ Below w.heap.size w w' := by
  refine (h.run (ctx0 w) env0 w (hp0 w) fun x hx => Sv.free_sc (hargs x hx) _).mono fun en w' => ?_
  rintro ⟨e', -, hp, rfl, -⟩
  refine ⟨by rw [Sv.free_den hv e' env0], hp.fr.os, hp.fr.tape, hp.fr.output, hp.fr.size, fun k hk => hp.fr.block k hk ?_⟩
  show ¬ w.heap.size ≤ k
  omega

/-- What is known stays known where nothing that was there is written. -/
theorem Hp.keep {C : Ctx} {e : Env} {s : Sto} {w w' : World} (h : Hp C e s w) (b : Below w.heap.size w w') : Hp C e s w' := by
  have keep : ∀ i b, s (.k i) = some (.bk b) → b.live = true → w'.heap[(e.pl i).1]? = w.heap[(e.pl i).1]? := fun i x hx hl => b.block _ (h.lt i x hx hl)
  refine ⟨h.new, ?_, ?_, ?_, ?_, h.inj, ?_, h.mu, h.pin, ?_⟩
  · intro i off x hx
    obtain ⟨h1, ⟨t, ro, n, cp, h2, h3⟩, h4⟩ := h.cl i off x hx
    exact ⟨h1, ⟨t, ro, n, cp, h2, h3⟩, by rw [World.cell?_of_block (w := w) (keep i _ h2 rfl), h4]⟩
  · intro i t n cp hx off ho
    have hk := keep i _ hx rfl
    rw [World.frozen?_of_block (w := w) hk, World.cell?_of_block (w := w) hk]
    exact h.ar i t n cp hx off ho
  · intro i t ro n f cp hx off ho
    have hk := keep i _ hx rfl
    rw [World.frozen?_of_block (w := w) hk, World.cell?_of_block (w := w) hk]
    exact h.oq i t ro n f cp hx off ho
  · intro i x c es hx hc
    have hl : x.live = true := by cases x <;> first | rfl | cases hc
    obtain ⟨h1, h2, cs, h3, h4⟩ := h.cp i x c es hx hc
    exact ⟨h1, h2, cs, (keep i x hx hl).trans h3, h4⟩
  · intro i x hx hl
    exact Nat.lt_of_lt_of_le (h.lt i x hx hl) b.size
  · have f := h.fr
    exact ⟨b.os.trans f.os, b.tape.trans f.tape, b.output.trans f.output, Nat.le_trans f.size b.size, fun k hk hM => (b.block k (Nat.lt_of_lt_of_le hk f.size)).trans (f.block k hk hM)⟩
/-- A function that hands a value back and leaves alone what was there: what a caller's state says of it. -/
theorem FunOk.of_any {f : FuncId} {args : List Sv} {v : Sv} {σ : St} (hv : v.freeB = true) (h : ∀ (e : Env) (w : World), Calls P f (args.map (·.den e)).toArray w fun en w' => en = .returned (v.den e) ∧ Below w.heap.size w w') : FunOk P f args σ v σ := by
  refine ⟨fun C e w hp _ => ?_, KeepL.refl _⟩
  refine (h e w).mono fun en w' => ?_
  rintro ⟨rfl, hb⟩
  exact ⟨e, Agree.refl _ _, hp.keep hb, rfl, Sv.free_sc hv _⟩

/-! The answer is true. -/
def okT : Tree FLeaf → Bool
  | .leaf y => match y.1 with
    | .one (.b b _) => b
    | _ => false
  | .must b t => b && okT t
  | .br b t f => bif b then okT t else okT f
  | .fail => false
theorem okT_at : ∀ {T : Tree FLeaf}, okT T = true → ∃ y l, T.At y ∧ y.1 = .one (.b true l)
  | .leaf y, h => by
    obtain ⟨v, σ⟩ := y
    cases v with
    | one c => cases c with
      | b b l => obtain rfl : b = true := h; exact ⟨_, l, rfl, rfl⟩
      | _ => cases h
    | _ => cases h
  | .must b t, h => by
    obtain ⟨h1, h2⟩ := Bool.and_eq_true_iff.1 (show (b && okT t) = true from h)
    obtain ⟨y, l, h3, h4⟩ := okT_at h2
    exact ⟨y, l, ⟨h1, h3⟩, h4⟩
  | .br b t f, h => by
    have h' : (bif b then okT t else okT f) = true := h
    cases b with
    | true => obtain ⟨y, l, h3, h4⟩ := okT_at (T := t) h'; exact ⟨y, l, Or.inl ⟨rfl, h3⟩, h4⟩
    | false => obtain ⟨y, l, h3, h4⟩ := okT_at (T := f) h'; exact ⟨y, l, Or.inr ⟨rfl, h3⟩, h4⟩
theorem true_any {wf : List FuncId} {sp : FuncId → Option (List Sv → St → Tree FLeaf)} {fuel d f : Nat} (hT : TbOk P tb) (hm : P.follows .mixedOrders = true) (hs : SpOk P sp) {args : List Sv} (hargs : ∀ x ∈ args, x.freeB = true)
    (h : okT (evFn tb wf sp fuel d f args st0) = true) (w : World) : Calls P f (args.map (·.den env0)).toArray w fun en w' => en = .returned (.bool true) ∧ Below w.heap.size w w' := by
  obtain ⟨y, l, h1, h2⟩ := okT_at h
  have := (evFn_at hT hm hs h1).any hargs (by rw [h2]; rfl) w
  rw [h2] at this
  exact this
theorem spNone : SpOk P fun _ => none := fun _ _ h => by cases h
/-- One function is known to answer true. -/
def spTrue (g : Nat) (f : FuncId) : Option (List Sv → St → Tree FLeaf) := match Nat.beq g f with
  | true => some fun args σ => match args with
    | [] => .leaf (.one (.b true true), σ)
    | _ => .fail
  | false => none
theorem spTrue_ok {g : Nat} (h : ∀ w, Calls P g #[] w fun en w' => en = .returned (.bool true) ∧ Below w.heap.size w w') : SpOk P (spTrue g) := by
  intro f k hk args σ y hy
  unfold spTrue at hk
  split at hk
  · rename_i hb
    obtain rfl := beq_iff'.1 hb
    obtain rfl := Option.some.inj hk
    cases args with
    | nil => obtain rfl := (show _ = y from hy); exact FunOk.of_any rfl fun e w => h w
    | cons => exact hy.elim
  · cases hk

/-! An argument's leaves. -/
def Lf.ok : Lf → Value → Prop
  | .b, v => ∃ b, v = .bool b
  | .i k, v => ∃ n, v = .int k n ∧ (Lit.int k n).wf = true
inductive All2 {α β : Type} (R : α → β → Prop) : List α → List β → Prop where
  | nil : All2 R [] []
  | cons {a b l m} : R a b → All2 R l m → All2 R (a :: l) (b :: m)
theorem All2.append {α β : Type} {R : α → β → Prop} {l l' : List α} {m m' : List β} (h : All2 R l m) (k : All2 R l' m') : All2 R (l ++ l') (m ++ m') := by
  induction h with
  | nil => exact k
  | cons h _ ih => exact .cons h ih
theorem All2.length {α β : Type} {R : α → β → Prop} {l : List α} {m : List β} (h : All2 R l m) : l.length = m.length := by
  induction h with
  | nil => rfl
  | cons _ _ ih => simp [ih]

section
variable {H : Type} {enc : TypeId × Value → H} {w : World} {base : Nat} {spare : Nat → Bool} {held : Bool}
theorem cellsOf_info (hT : TbOk P tb) {t : TypeId} {i : TypeInfo} (h : tb.info t = some i) : P.cellsOf t = i.size := by simp [Program.cellsOf, hT.info h]
def LvOk (P : Program) (enc : TypeId × Value → H) (w : World) (base : Nat) (spare : Nat → Bool) (held : Bool) (f : TypeId → Option (List Lf)) : Prop :=
  ∀ t ls cs n x, f t = some ls → DataW.trod enc P w base spare held n t cs = some x → All2 Lf.ok ls cs
theorem lvFs_ok (hT : TbOk P tb) {f : TypeId → Option (List Lf)} (hf : LvOk P enc w base spare held f) {m : Nat} {cs : List Value} : ∀ {fs : List Field} {off : Nat} {ls : List Lf}, lvFs tb f fs off = some ls →
    (∀ fd ∈ fs, ∃ x, DataW.trod enc P w base spare held m fd.type ((cs.drop fd.offset).take (P.cellsOf fd.type)) = some x) → All2 Lf.ok ls ((cs.drop off).take ls.length)
  | [], off, ls, h, _ => by
    obtain rfl := Option.some.inj h
    simpa using All2.nil
  | fd :: fs, off, ls, h, hx => by
    simp only [lvFs] at h
    split at h
    · rename_i l i hl hi
      split at h
      · rename_i hb
        obtain ⟨h1, h2⟩ := Bool.and_eq_true_iff.1 hb
        have h1 := beq_iff'.1 h1
        have h2 := beq_iff'.1 h2
        obtain ⟨r, hr, rfl⟩ := Option.map_eq_some_iff.1 h
        obtain ⟨x, hx1⟩ := hx fd List.mem_cons_self
        rw [cellsOf_info hT hi, h1, ← h2] at hx1
        have a1 := hf _ _ _ _ _ hl hx1
        have a2 := lvFs_ok hT hf hr fun g hg => hx g (List.mem_cons_of_mem _ hg)
        rw [← h2, ← List.drop_drop] at a2
        have := a1.append a2
        rw [List.length_append]
        have he : ∀ (L : List Value) (a b : Nat), L.take a ++ (L.drop a).take b = L.take (a + b) := fun L a b => by
          rw [List.take_add]
        rw [← he]
        exact this
      · cases h
    · cases h
theorem lvRep_len {l : List Lf} : ∀ n, (lvRep l n).length = n * l.length
  | 0 => by simp [lvRep]
  | n + 1 => by rw [lvRep, List.length_append, lvRep_len n, Nat.add_mul]; omega
theorem lvRep_ok {l : List Lf} {cs : List Value} {c : Nat} (hc : l.length = c) : ∀ {n k : Nat}, (∀ i, i < n → All2 Lf.ok l ((cs.drop ((k + i) * c)).take c)) → All2 Lf.ok (lvRep l n) ((cs.drop (k * c)).take (n * c))
  | 0, k, _ => by simpa [lvRep] using All2.nil
  | n + 1, k, h => by
    have a1 := h 0 (by omega)
    have a2 := lvRep_ok hc (n := n) (k := k + 1) fun i hi => by
      have := h (i + 1) (by omega)
      rwa [show k + (i + 1) = k + 1 + i by omega] at this
    have := a1.append a2
    rw [Nat.add_zero, show (k + 1) * c = k * c + c by rw [Nat.add_mul]; omega, ← List.drop_drop, ← List.take_add] at this
    rw [lvRep, show (n + 1) * c = c + n * c by rw [Nat.add_mul]; omega]
    exact this
theorem chkLen_some (hT : TbOk P tb) {t : TypeId} {o : Option (List Lf)} {ls : List Lf} (h : chkLen tb t o = some ls) : o = some ls ∧ ls.length = P.cellsOf t := by
  unfold chkLen at h
  split at h
  · rename_i l i hi
    split at h
    · rename_i hb
      obtain rfl := Option.some.inj h
      exact ⟨rfl, by rw [cellsOf_info hT hi]; exact beq_iff'.1 hb⟩
    · cases h
  · cases h
theorem leaves_ok (hT : TbOk P tb) : ∀ d, LvOk P enc w base spare held (leaves tb d)
  | 0 => fun _ _ _ _ _ h => by cases h
  | d + 1 => by
    intro t ls cs n x h hx
    simp only [leaves] at h
    split at h
    · rename_i hu
      obtain rfl := Option.some.inj h
      obtain ⟨b, rfl, _⟩ := DataW.trod_bool (hT.und hu) hx
      exact .cons ⟨b, rfl⟩ .nil
    · rename_i k hu
      obtain rfl := Option.some.inj h
      obtain ⟨v, rfl, _, hw⟩ := DataW.trod_int (hT.und hu) hx
      exact .cons ⟨v, rfl, hw⟩ .nil
    · rename_i fs hu
      obtain ⟨h, hll⟩ := chkLen_some hT h
      obtain ⟨xs, m, _, _, hl, hxl, hg⟩ := DataW.trod_struct (hT.und hu) hx
      have := lvFs_ok hT (leaves_ok hT d) (m := m) (cs := cs) h fun fd hfd => by
        obtain ⟨j, hj⟩ := List.getElem?_of_mem hfd
        have h1 := hg j fd (by rw [← Array.getElem?_toList]; exact hj)
        have hlt : j < xs.length := by
          rw [hxl]
          have := (List.getElem?_eq_some_iff.1 hj).1
          simpa using this
        rw [List.getElem?_eq_getElem hlt] at h1
        exact ⟨_, h1⟩
      rwa [List.drop_zero, hll, ← hl, List.take_length] at this
    · rename_i n' e hu
      split at h
      · rename_i l i hl hi
        split at h
        · rename_i hb
          obtain ⟨h, hll⟩ := chkLen_some hT h
          obtain rfl := Option.some.inj h
          have hb := beq_iff'.1 hb
          obtain ⟨xs, m, _, _, hlen, hxl, hg⟩ := DataW.trod_array (hT.und hu) hx
          have := lvRep_ok (cs := cs) hb (n := n') (k := 0) fun j hj => by
            have h1 := hg j hj
            rw [List.getElem?_eq_getElem (by omega), cellsOf_info hT hi] at h1
            rw [Nat.zero_add]
            exact leaves_ok hT d _ _ _ _ _ hl h1
          rwa [Nat.zero_mul, List.drop_zero, ← hb, ← lvRep_len, hll, ← hlen, List.take_length] at this
        · cases h
      · cases h
    · cases h
end

/-! Leaves in names: the truth value bs j, the number ns j, for leaf j. -/
def Lf.cv (bs : Nat → Bool) (ns : Nat → Int) (j : Nat) : Lf → Cv
  | .b => .b (bs j) false
  | .i k => .i k (ns j) false
def symL (bs : Nat → Bool) (ns : Nat → Int) : Nat → List Lf → List Cv
  | _, [] => []
  | j, l :: ls => l.cv bs ns j :: symL bs ns (j + 1) ls
/-- Each number is one of its kind. -/
def WfL (ns : Nat → Int) (ls : List Lf) : Prop := ∀ j k, ls[j]? = some (.i k) → (Lit.int k (ns j)).wf = true
def getB (cs : List Value) (j : Nat) : Bool := match cs[j]? with
  | some (.bool b) => b
  | _ => false
def getN (cs : List Value) (j : Nat) : Int := match cs[j]? with
  | some (.int _ n) => n
  | _ => 0
theorem symL_of {c0 : List Value} : ∀ {ls : List Lf} {cs : List Value} {j : Nat}, All2 Lf.ok ls cs → (∀ i, cs[i]? = c0[j + i]?) → (∀ e, cs = (symL (getB c0) (getN c0) j ls).map (·.den e)) ∧ ∀ i k, ls[i]? = some (.i k) → (Lit.int k (getN c0 (j + i))).wf = true
  | _, _, j, .nil, _ => ⟨fun _ => rfl, fun i k h => by simp at h⟩
  | l :: ls, c :: cs, j, .cons hc h, hi => by
    obtain ⟨h1, h2⟩ := symL_of (j := j + 1) h fun i => by
      have := hi (i + 1)
      rw [show j + (i + 1) = j + 1 + i by omega] at this
      exact this
    have h0 : c0[j]? = some c := by have := hi 0; simpa using this.symm
    refine ⟨fun e => ?_, fun i k hk => ?_⟩
    · have hd : c = (l.cv (getB c0) (getN c0) j).den e := by
        cases l with
        | b => obtain ⟨b, rfl⟩ := hc; simp [Lf.cv, Cv.den, getB, h0]
        | i k => obtain ⟨n, rfl, _⟩ := hc; simp [Lf.cv, Cv.den, getN, h0]
      rw [symL, List.map_cons, ← h1 e, ← hd]
    · cases i with
      | zero =>
        obtain rfl : l = .i k := by simpa using hk
        obtain ⟨n, rfl, hw⟩ := hc
        simpa [getN, h0] using hw
      | succ i =>
        have := h2 i k (by simpa using hk)
        rwa [show j + 1 + i = j + (i + 1) by omega] at this
theorem symL_free (bs : Nat → Bool) (ns : Nat → Int) : ∀ (ls : List Lf) (j : Nat), (symL bs ns j ls).all Cv.freeB = true
  | [], _ => rfl
  | l :: ls, j => by
    rw [symL, List.all_cons, symL_free bs ns ls]
    cases l <;> rfl

section
variable {H : Type} {enc : TypeId × Value → H} {w : World} {base : Nat} {spare : Nat → Bool} {held : Bool} {t : TypeId} {v : Value} {dt : DataW H} {ps : List MemPlace} {r : Reach} {b0 : Nat}
def isWide (tb : Tb) (t : TypeId) : Bool := match tb.und t with
  | some (.struct _) => true
  | some (.array _ _) => true
  | _ => false
theorem okWide_array {n : Nat} {e : TypeId} (ht : P.underlying t = some (.array n e)) (h : Value.okWide P w r b0 t v) : ∃ cs, v = .agg cs ∧ cs.size = P.cellsOf t := by
  simp only [Value.okWide, ht] at h
  obtain ⟨cs, h1, h2, _⟩ := h
  exact ⟨cs, h1, h2⟩
/-- A struct or an array, in names. -/
theorem open_sym (hT : TbOk P tb) {d : Nat} {ls : List Lf} (hw : isWide tb t = true) (hl : leaves tb d t = some ls) (hv : Value.okWide P w r b0 t v) (h : DataW.Trod enc P w base spare held t v dt ps) :
    ∃ (bs : Nat → Bool) (ns : Nat → Int), v = (Sv.agg (symL bs ns 0 ls)).den env0 ∧ WfL ns ls := by
  have hv' : ∃ cs, v = .agg cs ∧ cs.size = P.cellsOf t := by
    unfold isWide at hw
    split at hw
    · rename_i hu; exact okWide_struct (hT.und hu) hv
    · rename_i hu; exact okWide_array (hT.und hu) hv
    · cases hw
  obtain ⟨cs, rfl, -⟩ := hv'
  obtain ⟨fuel, hf⟩ := h
  have h2 := leaves_ok hT d t ls cs.toList fuel _ hl (by simpa [Value.cells] using hf)
  obtain ⟨h3, h4⟩ := symL_of (c0 := cs.toList) (j := 0) h2 (fun i => by rw [Nat.zero_add])
  refine ⟨getB cs.toList, getN cs.toList, ?_, fun j k hj => by have := h4 j k hj; rwa [Nat.zero_add] at this⟩
  show Value.agg cs = .agg (densA env0 _)
  unfold densA
  rw [← h3 env0]
end
end
end Sx
end Go.Proofs.Ytgiinciclnekjaa

/-
  Functions that are told by a rule: what they hand back depends on their arguments' values alone.
-/
set_option linter.unusedSimpArgs false
set_option linter.unusedVariables false
namespace Go.Proofs.Ytgiinciclnekjaa
namespace Sx
open Go.RowKit

section
variable {P : Program} {tb : Tb}
/-- The rules of some functions. -/
abbrev Rules := List (Nat × (List Sv → Option Sv))
def spR (l : Rules) (f : FuncId) : Option (List Sv → St → Tree FLeaf) := match alook l f with
  | some g => some fun args σ => match g args with
    | some v => .leaf (v, σ)
    | none => .fail
  | none => none
/-- A rule is right. -/
def RuleOk (P : Program) (f : FuncId) (g : List Sv → Option Sv) : Prop := ∀ args v, g args = some v → v.freeB = true ∧ ∀ (e : Env) (w : World), Calls P f (args.map (·.den e)).toArray w fun en w' => en = .returned (v.den e) ∧ Below w.heap.size w w'
def RulesOk (P : Program) : Rules → Prop
  | [] => True
  | (f, g) :: l => RuleOk P f g ∧ RulesOk P l
theorem RulesOk.at_ : ∀ {l : Rules}, RulesOk P l → ∀ {f g}, alook l f = some g → RuleOk P f g
  | [], _, _, _, h => by cases h
  | (k, g) :: l, hl, f, g', h => by
    simp only [alook] at h
    cases c : Nat.beq k f with
    | true =>
      rw [c] at h
      obtain rfl := beq_iff'.1 c
      obtain rfl : g = g' := by simpa using h
      exact hl.1
    | false => rw [c] at h; exact RulesOk.at_ hl.2 h
theorem spR_ok {l : Rules} (h : RulesOk P l) : SpOk P (spR l) := by
  intro f k hk args σ y hy
  unfold spR at hk
  split at hk
  · rename_i g hg
    obtain rfl := Option.some.inj hk
    simp only [] at hy
    split at hy
    · rename_i v hv
      obtain rfl := (show _ = y from hy)
      obtain ⟨h1, h2⟩ := h.at_ hg args v hv
      exact FunOk.of_any h1 h2
    · exact hy.elim
  · cases hk
/-- A rule from another one: what is known where a value is asked for in other words. -/
theorem calls_den {f : FuncId} {args : List Sv} {w : World} {a : Array Value} {v v' : Value} (h : Calls P f (args.map (·.den env0)).toArray w fun en w' => en = .returned v ∧ Below w.heap.size w w') (ha : (args.map (·.den env0)).toArray = a) (hv : v = v') :
    Calls P f a w fun en w' => en = .returned v' ∧ Below w.heap.size w w' := by subst ha hv; exact h
/-- What a tree hands back where it has one way that holds. -/
def rdB : Tree FLeaf → Bool
  | .leaf y => match y.1 with
    | .one (.b b _) => b
    | _ => false
  | .must _ t => rdB t
  | .br b t f => bif b then rdB t else rdB f
  | .fail => false
def isB : Tree FLeaf → Bool
  | .leaf y => match y.1 with
    | .one (.b _ _) => true
    | _ => false
  | .must b t => b && isB t
  | .br b t f => bif b then isB t else isB f
  | .fail => false
theorem rdB_at : ∀ {T : Tree FLeaf}, isB T = true → ∃ y l, T.At y ∧ y.1 = .one (.b (rdB T) l)
  | .leaf y, h => by
    obtain ⟨v, σ⟩ := y
    cases v with
    | one c => cases c with
      | b b l => exact ⟨_, l, rfl, rfl⟩
      | _ => cases h
    | _ => cases h
  | .must b t, h => by
    obtain ⟨h1, h2⟩ := Bool.and_eq_true_iff.1 (show (b && isB t) = true from h)
    obtain ⟨y, l, h3, h4⟩ := rdB_at h2
    exact ⟨y, l, ⟨h1, h3⟩, h4⟩
  | .br b t f, h => by
    have h' : (bif b then isB t else isB f) = true := h
    cases b with
    | true => obtain ⟨y, l, h3, h4⟩ := rdB_at (T := t) h'; exact ⟨y, l, Or.inl ⟨rfl, h3⟩, h4⟩
    | false => obtain ⟨y, l, h3, h4⟩ := rdB_at (T := f) h'; exact ⟨y, l, Or.inr ⟨rfl, h3⟩, h4⟩
/-- A truth value, from numbers: by evaluation, in any world. -/
theorem bool_any {wf : List FuncId} {sp : FuncId → Option (List Sv → St → Tree FLeaf)} {fuel d f : Nat} (hT : TbOk P tb) (hm : P.follows .mixedOrders = true) (hs : SpOk P sp) {args : List Sv} (hargs : ∀ x ∈ args, x.freeB = true)
    (h : isB (evFn tb wf sp fuel d f args st0) = true) {r : Bool} (hr : rdB (evFn tb wf sp fuel d f args st0) = r) (e : Env) (w : World) : Calls P f (args.map (·.den e)).toArray w fun en w' => en = .returned (.bool r) ∧ Below w.heap.size w w' := by
  obtain ⟨y, l, h1, h2⟩ := rdB_at h
  have := (evFn_at hT hm hs h1).any hargs (by rw [h2]; rfl) w
  rw [h2, hr] at this
  have he : args.map (·.den e) = args.map (·.den env0) := List.map_congr_left fun x hx => Sv.free_den (hargs x hx) env0 e
  rw [he]
  exact this
def spOr (a b : FuncId → Option (List Sv → St → Tree FLeaf)) (f : FuncId) : Option (List Sv → St → Tree FLeaf) := match a f with
  | some g => some g
  | none => b f
theorem spOr_ok {a b : FuncId → Option (List Sv → St → Tree FLeaf)} (ha : SpOk P a) (hb : SpOk P b) : SpOk P (spOr a b) := by
  intro f g hg
  unfold spOr at hg
  split at hg
  · rename_i k hk; exact ha f g (hk.trans hg)
  · exact hb f g hg
end
end Sx
end Go.Proofs.Ytgiinciclnekjaa

/-
  A function that only reads: what is known of it at one state is known at every state that has the same blocks under other names.
-/
set_option linter.unusedSimpArgs false
set_option linter.unusedVariables false
namespace Go.Proofs.Ytgiinciclnekjaa
namespace Sx
open Go.RowKit

section
variable {P : Program} {tb : Tb}
def Pv.ren (ρ : Nat → Nat) : Pv → Pv
  | .ptr id off => .ptr (ρ id) off
  | p => p
def Cv.ren (ρ : Nat → Nat) : Cv → Cv
  | .ptr id off => .ptr (ρ id) off
  | .slc id off len cap => .slc (ρ id) off len cap
  | .fn f caps => .fn f (caps.map (Pv.ren ρ))
  | c => c
def Sv.ren (ρ : Nat → Nat) : Sv → Sv
  | .one c => .one (c.ren ρ)
  | .agg cs => .agg (cs.map (Cv.ren ρ))
  | .tup vs => .tup (vs.map fun p => (p.1, p.2.map (Cv.ren ρ)))
def Env.ren (e : Env) (ρ : Nat → Nat) : Env := ⟨fun id => e.pl (ρ id), e.nm⟩
theorem Pv.ren_den (ρ : Nat → Nat) (e : Env) (p : Pv) : (p.ren ρ).den e = p.den (e.ren ρ) := by cases p <;> rfl
theorem Sn.ren_den (ρ : Nat → Nat) (e : Env) (n : Sn) : n.den (e.ren ρ) = n.den e := by cases n <;> rfl
theorem Cv.ren_den (ρ : Nat → Nat) (e : Env) (c : Cv) : (c.ren ρ).den e = c.den (e.ren ρ) := by
  cases c with
  | ptr id off => simp only [Cv.ren, Cv.den, Sn.ren_den]; rfl
  | slc id off len cap => simp only [Cv.ren, Cv.den, Sn.ren_den]; rfl
  | fn f caps => simp only [Cv.ren, Cv.den, List.map_map, Function.comp_def, Pv.ren_den]
  | _ => rfl
theorem densA_ren (ρ : Nat → Nat) (e : Env) (cs : List Cv) : densA e (cs.map (Cv.ren ρ)) = densA (e.ren ρ) cs := by
  unfold densA
  rw [List.map_map]
  congr 1
  exact List.map_congr_left fun c _ => Cv.ren_den ρ e c
theorem Sv.ren_den (ρ : Nat → Nat) (e : Env) (v : Sv) : (v.ren ρ).den e = v.den (e.ren ρ) := by
  cases v with
  | one c => exact Cv.ren_den ρ e c
  | agg cs => simp only [Sv.ren, Sv.den, densA_ren]
  | tup vs =>
    simp only [Sv.ren, Sv.den, List.map_map]
    congr 2
    refine List.map_congr_left fun p _ => ?_
    simp only [Function.comp, compDen, densA_ren, List.map_map]
    congr 2
    exact List.map_congr_left fun c _ => Cv.ren_den ρ e c
/-- The blocks of a state that a function reads: each is one of the other state's. -/
def SameCells (ρ : Nat → Nat) (cs cs1 : List Cv) : Prop := cs1.length = cs.length ∧ ∀ (e : Env) (j : Nat), (cs1[j]?).map (·.den e) = (cs[j]?).map (·.den (e.ren ρ))
def BkIs (σ : St) (ρ : Nat → Nat) : List (Nat × Blk) → Prop
  | [] => True
  | (id, b) :: l => (∃ t cs cs1 ro cp, b = .ar t true cs none ∧ alook σ.bk (ρ id) = some (.ar t ro cs1 cp) ∧ SameCells ρ cs cs1) ∧ BkIs σ ρ l
theorem BkIs.at_ {σ : St} {ρ : Nat → Nat} : ∀ {l : List (Nat × Blk)}, BkIs σ ρ l → ∀ {id b}, alook l id = some b → ∃ t cs cs1 ro cp, b = .ar t true cs none ∧ alook σ.bk (ρ id) = some (.ar t ro cs1 cp) ∧ SameCells ρ cs cs1
  | [], _, _, _, h => by cases h
  | (k, c) :: l, hl, id, b, h => by
    simp only [alook] at h
    cases hk : Nat.beq k id with
    | true =>
      rw [hk] at h
      obtain rfl := beq_iff'.1 hk
      obtain rfl : c = b := by simpa using h
      exact hl.1
    | false => rw [hk] at h; exact BkIs.at_ hl.2 h
def closedB (σ : St) : Bool := σ.bk.all fun p => p.2.inB (σ.bk.map (·.1)) []
theorem alook_mem {α : Type} : ∀ {l : List (Nat × α)} {n : Nat} {v : α}, alook l n = some v → (n, v) ∈ l
  | [], _, _, h => by cases h
  | (k, u) :: l, n, v, h => by
    simp only [alook] at h
    cases hk : Nat.beq k n with
    | true =>
      rw [hk] at h
      obtain rfl := beq_iff'.1 hk
      obtain rfl : u = v := by simpa using h
      exact List.mem_cons_self
    | false => rw [hk] at h; exact List.mem_cons_of_mem _ (alook_mem h)
theorem alook_isSome {α : Type} : ∀ {l : List (Nat × α)} {n : Nat}, n ∈ l.map (·.1) → (alook l n).isSome = true
  | [], _, h => by cases h
  | (k, u) :: l, n, h => by
    simp only [alook]
    cases hk : Nat.beq k n with
    | true => rfl
    | false =>
      rw [List.map_cons, List.mem_cons] at h
      rcases h with rfl | h
      · rw [Nat.beq_refl] at hk; cases hk
      · exact alook_isSome h
theorem ren_hp {σ0 σ : St} {ρ : Nat → Nat} (hb : BkIs σ ρ σ0.bk) (hc : closedB σ0 = true) {C : Ctx} {e : Env} {w : World} (hp : Hp C e (look σ) w) : Hp (ctx0 w) (e.ren ρ) (look σ0) w := by
  have blk : ∀ id b, look σ0 (.k id) = some (.bk b) → ∃ t cs cs1 ro cp, alook σ0.bk id = some (.ar t true cs none) ∧ b = .ar t true cs.length none ∧ alook σ.bk (ρ id) = some (.ar t ro cs1 cp) := by
    intro id b h
    simp only [look, Option.map_eq_some_iff] at h
    obtain ⟨b0, h1, h2⟩ := h
    obtain ⟨t, cs, cs1, ro, cp, rfl, h3, _⟩ := hb.at_ h1
    exact ⟨t, cs, cs1, ro, cp, h1, by simpa [Blk.info] using h2.symm, h3⟩
  have S : Sub (stoOf (σ0.bk.map (·.1)) []) (look σ0) := by
    refine ⟨fun id h => ?_, fun c h => ?_⟩
    · unfold kn at h ⊢
      simp only [stoOf] at h
      split at h
      · rename_i hm
        obtain ⟨b, hb'⟩ := Option.isSome_iff_exists.1 (alook_isSome (memb_iff.1 hm))
        simp only [look, hb']; rfl
      · cases h
    · unfold knn at h
      simp only [stoOf] at h
      split at h
      · rename_i hm; cases hm
      · cases h
  refine ⟨fun _ h => h, ?_, ?_, ?_, ?_, ?_, ?_, ?_, ⟨fun _ _ h => (by cases h), fun _ _ h => (by cases h)⟩, ⟨rfl, rfl, rfl, Nat.le_refl _, fun _ _ _ => rfl⟩⟩
  · intro id off v hv
    have hv' := hv
    simp only [look, Option.bind_eq_some_iff] at hv'
    obtain ⟨b0, h1, h2⟩ := hv'
    obtain ⟨t, cs, cs1, ro, cp, rfl, h3, hsame⟩ := hb.at_ h1
    obtain ⟨c, h4, h5⟩ := Option.map_eq_some_iff.1 h2
    obtain rfl : c = v := by simpa using h5
    have h4 : cs[off]? = some c := h4
    have hlt := (List.getElem?_eq_some_iff.1 h4).1
    have hin := List.all_eq_true.1 hc _ (alook_mem h1)
    refine ⟨?_, ⟨t, true, cs.length, none, by simp only [look, h1]; rfl, hlt⟩, ?_⟩
    · have : (Blk.ar t true cs none).inB (σ0.bk.map (·.1)) [] = true := hin
      simp only [Blk.inB, Bool.and_eq_true] at this
      exact (Cv.inB_sc (List.all_eq_true.1 this.1 c (List.mem_of_getElem? h4))).sub S
    · have hlt1 : off < cs1.length := by rw [hsame.1]; exact hlt
      have h5 := hsame.2 e off
      rw [h4, List.getElem?_eq_getElem hlt1] at h5
      have h5 : (cs1[off]).den e = c.den (e.ren ρ) := by simpa using h5
      have h6 : look σ (.c (ρ id) off) = some (.cv cs1[off]) := by
        simp only [look, h3, Option.bind_some, Blk.cell, List.getElem?_eq_getElem hlt1, Option.map_some]
      obtain ⟨_, _, h7⟩ := hp.cl _ _ _ h6
      rw [h5] at h7
      exact h7
  · intro id t n cp h
    obtain ⟨t', cs, cs1, ro, cp', _, h2, _⟩ := blk id _ h
    cases h2
  · intro id t ro n f cp h
    obtain ⟨t', cs, cs1, ro, cp', _, h2, _⟩ := blk id _ h
    cases h2
  · intro id b c es h hcp
    obtain ⟨t', cs, cs1, ro, cp', _, rfl, _⟩ := blk id _ h
    cases hcp
  · intro id id' b b' h1 _ h3
    obtain ⟨t', cs, cs1, ro, cp', _, rfl, _⟩ := blk id _ h1
    cases h3
  · intro id b h _
    obtain ⟨t', cs, cs1, ro, cp', _, rfl, h3⟩ := blk id _ h
    exact hp.lt (ρ id) (.ar t' ro cs1.length cp') (by simp only [look, h3]; rfl) rfl
  · intro id b h hr
    obtain ⟨t', cs, cs1, ro, cp', _, rfl, _⟩ := blk id _ h
    cases hr
/-- From one state to every other that has its blocks. -/
theorem FunOk.ren {f : FuncId} {args0 args : List Sv} {σ0 σ0' σ : St} {v : Sv} (h : FunOk P f args0 σ0 v σ0') (ρ : Nat → Nat) (hb : BkIs σ ρ σ0.bk) (hc : closedB σ0 = true) (ha : ∀ e, args.map (·.den e) = args0.map (·.den (e.ren ρ))) (hs : ∀ x ∈ args0, x.sc (look σ0)) (hv : v.freeB = true) : FunOk P f args σ v σ := by
  refine ⟨fun C e w hp _ => ?_, KeepL.refl _⟩
  have h1 := h.run (ctx0 w) (e.ren ρ) w (ren_hp hb hc hp) hs
  rw [ha e]
  refine h1.mono fun en w' => ?_
  rintro ⟨e', -, hp', rfl, -⟩
  have hB : Below w.heap.size w w' := ⟨hp'.fr.os, hp'.fr.tape, hp'.fr.output, hp'.fr.size, fun k hk => hp'.fr.block k hk (by show ¬ w.heap.size ≤ k; omega)⟩
  exact ⟨e, Agree.refl _ _, hp.keep hB, by rw [Sv.free_den hv e' e], Sv.free_sc hv _⟩

/-! Cells of numbers and truth values: what they read as. -/
def isL : List Lf → List Cv → Bool
  | [], [] => true
  | .b :: ls, .b _ _ :: cs => isL ls cs
  | .i k :: ls, .i k' _ _ :: cs => decide (k = k') && isL ls cs
  | _, _ => false
def bOf (cs : List Cv) (j : Nat) : Bool := match cs[j]? with
  | some (.b v _) => v
  | _ => false
def nOf (cs : List Cv) (j : Nat) : Int := match cs[j]? with
  | some (.i _ n _) => n
  | _ => 0
theorem isL_den {c0 : List Cv} : ∀ {ls : List Lf} {cs : List Cv} {j : Nat}, isL ls cs = true → (∀ i, cs[i]? = c0[j + i]?) → ∀ (e e' : Env) (i : Nat), (cs[i]?).map (·.den e) = ((symL (bOf c0) (nOf c0) j ls)[i]?).map (·.den e')
  | [], [], j, _, _ => fun e e' i => by simp [symL]
  | [], _ :: _, _, h, _ => by cases h
  | .b :: _, [], _, h, _ => by cases h
  | .i _ :: _, [], _, h, _ => by cases h
  | l :: ls, c :: cs, j, h, hi => by
    intro e e' i
    have h0 : c0[j]? = some c := by have := hi 0; simpa using this.symm
    have hn : ∀ i, cs[i]? = c0[j + 1 + i]? := fun i => by
      have := hi (i + 1)
      rw [show j + (i + 1) = j + 1 + i by omega] at this
      exact this
    cases i with
    | zero =>
      simp only [symL, List.getElem?_cons_zero, Option.map_some]
      congr 1
      cases l with
      | b => cases c with
        | b v fl => simp [Lf.cv, Cv.den, bOf, h0]
        | _ => cases h
      | i k => cases c with
        | i k' v fl =>
          simp only [isL, Bool.and_eq_true, decide_eq_true_eq] at h
          obtain ⟨rfl, _⟩ := h
          simp [Lf.cv, Cv.den, nOf, h0]
        | _ => cases h
    | succ i =>
      simp only [symL, List.getElem?_cons_succ]
      have h' : isL ls cs = true := by
        cases l with
        | b => cases c with
          | b v fl => exact h
          | _ => cases h
        | i k => cases c with
          | i k' v fl => exact (Bool.and_eq_true_iff.1 h).2
          | _ => cases h
      exact isL_den h' hn e e' i
theorem isL_len : ∀ {ls : List Lf} {cs : List Cv}, isL ls cs = true → cs.length = ls.length
  | [], [], _ => rfl
  | [], _ :: _, h => by cases h
  | .b :: _, [], h => by cases h
  | .i _ :: _, [], h => by cases h
  | .b :: ls, c :: cs, h => by
    cases c with
    | b v fl => simp [isL_len (show isL ls cs = true from h)]
    | _ => cases h
  | .i k :: ls, c :: cs, h => by
    cases c with
    | i k' v fl => simp [isL_len (Bool.and_eq_true_iff.1 h).2]
    | _ => cases h
theorem symL_len (bs : Nat → Bool) (ns : Nat → Int) : ∀ (ls : List Lf) (j : Nat), (symL bs ns j ls).length = ls.length
  | [], _ => rfl
  | _ :: ls, j => by simp [symL, symL_len bs ns ls]
theorem same_isL {ρ : Nat → Nat} {ls : List Lf} {cs : List Cv} (h : isL ls cs = true) : SameCells ρ (symL (bOf cs) (nOf cs) 0 ls) cs :=
  ⟨by rw [isL_len h, symL_len], fun e j => isL_den h (fun i => by rw [Nat.zero_add]) e _ j⟩
theorem same_cons {ρ : Nat → Nat} {c c1 : Cv} {cs cs1 : List Cv} (h0 : ∀ e, c1.den e = c.den (e.ren ρ)) (h : SameCells ρ cs cs1) : SameCells ρ (c :: cs) (c1 :: cs1) := by
  refine ⟨by simp [h.1], fun e j => ?_⟩
  cases j with
  | zero => simp [h0]
  | succ j => simpa using h.2 e j

/-- Rules that look at what their arguments point to. -/
abbrev RulesM := List (Nat × (List Sv → St → Option Sv))
def spM (l : RulesM) (f : FuncId) : Option (List Sv → St → Tree FLeaf) := match alook l f with
  | some g => some fun args σ => match g args σ with
    | some v => .leaf (v, σ)
    | none => .fail
  | none => none
def RuleMOk (P : Program) (f : FuncId) (g : List Sv → St → Option Sv) : Prop := ∀ args σ v, g args σ = some v → FunOk P f args σ v σ
def RulesMOk (P : Program) : RulesM → Prop
  | [] => True
  | (f, g) :: l => RuleMOk P f g ∧ RulesMOk P l
theorem RulesMOk.at_ : ∀ {l : RulesM}, RulesMOk P l → ∀ {f g}, alook l f = some g → RuleMOk P f g
  | [], _, _, _, h => by cases h
  | (k, g) :: l, hl, f, g', h => by
    simp only [alook] at h
    cases c : Nat.beq k f with
    | true =>
      rw [c] at h
      obtain rfl := beq_iff'.1 c
      obtain rfl : g = g' := by simpa using h
      exact hl.1
    | false => rw [c] at h; exact RulesMOk.at_ hl.2 h
theorem spM_ok {l : RulesM} (h : RulesMOk P l) : SpOk P (spM l) := by
  intro f k hk args σ y hy
  unfold spM at hk
  split at hk
  · rename_i g hg
    obtain rfl := Option.some.inj hk
    simp only [] at hy
    split at hy
    · rename_i v hv
      obtain rfl := (show _ = y from hy)
      exact h.at_ hg args σ v hv
    · exact hy.elim
  · cases hk
end
end Sx
end Go.Proofs.Ytgiinciclnekjaa

/-
  What a function hands back, told in plain numbers and truth values.
-/
set_option linter.unusedSimpArgs false
set_option linter.unusedVariables false
namespace Go.Proofs.Ytgiinciclnekjaa
namespace Sx
open Go.RowKit

inductive Lv where
  | b (v : Bool)
  | i (k : IntKind) (n : Int)
inductive Vv where
  | one (x : Lv)
  | agg (xs : List Lv)
  | tup (xs : List (Bool × List Lv))
def Lv.cv : Lv → Cv
  | .b v => .b v false
  | .i k n => .i k n false
def Lv.val : Lv → Value
  | .b v => .bool v
  | .i k n => .int k n
def Cv.lv : Cv → Option Lv
  | .b v _ => some (.b v)
  | .i k n _ => some (.i k n)
  | _ => none
def lvs : List Cv → Option (List Lv)
  | [] => some []
  | c :: cs => match c.lv, lvs cs with
    | some x, some xs => some (x :: xs)
    | _, _ => none
def lvt : List (Bool × List Cv) → Option (List (Bool × List Lv))
  | [] => some []
  | p :: ps => match lvs p.2, lvt ps with
    | some x, some xs => some ((p.1, x) :: xs)
    | _, _ => none
def Sv.vv : Sv → Option Vv
  | .one c => c.lv.map .one
  | .agg cs => (lvs cs).map .agg
  | .tup vs => (lvt vs).map .tup
def Vv.sv : Vv → Sv
  | .one x => .one x.cv
  | .agg xs => .agg (xs.map Lv.cv)
  | .tup xs => .tup (xs.map fun p => (p.1, p.2.map Lv.cv))
theorem Cv.lv_den {c : Cv} {x : Lv} (h : c.lv = some x) (e e' : Env) : c.den e = x.cv.den e' := by
  cases c <;> simp only [Cv.lv, Option.some.injEq, reduceCtorEq] at h <;> subst h <;> rfl
theorem lvs_den : ∀ {cs : List Cv} {xs : List Lv}, lvs cs = some xs → ∀ e e', cs.map (·.den e) = (xs.map Lv.cv).map (·.den e')
  | [], xs, h, e, e' => by obtain rfl := Option.some.inj h; rfl
  | c :: cs, xs, h, e, e' => by
    simp only [lvs] at h
    split at h
    · rename_i x xs' h1 h2
      obtain rfl := Option.some.inj h
      simp only [List.map_cons]
      rw [Cv.lv_den h1 e e', lvs_den h2 e e']
    · cases h
theorem lvt_den : ∀ {ps : List (Bool × List Cv)} {xs : List (Bool × List Lv)}, lvt ps = some xs → ∀ e e', ps.map (compDen e) = (xs.map fun p => (p.1, p.2.map Lv.cv)).map (compDen e')
  | [], xs, h, e, e' => by obtain rfl := Option.some.inj h; rfl
  | p :: ps, xs, h, e, e' => by
    simp only [lvt] at h
    split at h
    · rename_i x xs' h1 h2
      obtain rfl := Option.some.inj h
      have h3 := lvs_den h1 e e'
      have h4 := lvt_den h2 e e'
      simp only [List.map_cons]
      rw [h4]
      congr 1
      simp only [compDen, densA]
      rw [h3]
    · cases h
theorem Sv.vv_den {v : Sv} {x : Vv} (h : v.vv = some x) (e e' : Env) : v.den e = x.sv.den e' := by
  cases v with
  | one c =>
    obtain ⟨y, hy, rfl⟩ := Option.map_eq_some_iff.1 h
    exact Cv.lv_den hy e e'
  | agg cs =>
    obtain ⟨y, hy, rfl⟩ := Option.map_eq_some_iff.1 h
    show Value.agg (cs.map _).toArray = Value.agg ((y.map Lv.cv).map _).toArray
    rw [lvs_den hy e e']
  | tup vs =>
    obtain ⟨y, hy, rfl⟩ := Option.map_eq_some_iff.1 h
    show Value.tuple (vs.map _).toArray = Value.tuple ((y.map _).map _).toArray
    rw [lvt_den hy e e']
theorem Lv.cv_free (x : Lv) : x.cv.freeB = true := by cases x <;> rfl
theorem lv_free (xs : List Lv) : (xs.map Lv.cv).all Cv.freeB = true := by
  rw [List.all_eq_true]
  intro c hc
  obtain ⟨x, _, rfl⟩ := List.mem_map.1 hc
  exact Lv.cv_free x
theorem Vv.sv_free (x : Vv) : x.sv.freeB = true := by
  cases x with
  | one x => exact Lv.cv_free x
  | agg xs => exact lv_free xs
  | tup xs =>
    show List.all _ _ = true
    rw [List.all_eq_true]
    intro p hp
    obtain ⟨q, _, rfl⟩ := List.mem_map.1 hp
    exact lv_free q.2

section
variable {P : Program} {tb : Tb}
/-- The one way that is left, what it demands, and what it hands back. -/
def res (T : Tree FLeaf) : Option (List Bool × Vv) := match peelF T with
  | some (l, (v, _)) => match v.vv with
    | some x => some (l, x)
    | none => none
  | none => none
theorem res_at {T : Tree FLeaf} {l : List Bool} {x : Vv} (h : res T = some (l, x)) (hl : ∀ b ∈ l, b = true) : ∃ y, T.At y ∧ y.1.vv = some x := by
  unfold res at h
  split at h
  · rename_i l' v σ hp
    split at h
    · rename_i x' hx
      obtain ⟨rfl, rfl⟩ := Prod.mk.inj (Option.some.inj h)
      exact ⟨(v, σ), peelF_at hp hl, hx⟩
    · cases h
  · cases h
theorem FunOk.val {f : FuncId} {args : List Sv} {σ σ' : St} {v u : Sv} (h : FunOk P f args σ v σ') (hd : ∀ e, v.den e = u.den e) (hu : u.freeB = true) : FunOk P f args σ u σ' := by
  refine ⟨fun C e w hp hs => ?_, h.keep⟩
  refine (h.run C e w hp hs).mono fun en w' => ?_
  rintro ⟨e', h1, h2, rfl, -⟩
  exact ⟨e', h1, h2, by rw [hd e'], Sv.free_sc hu _⟩
theorem res_ok {wf : List FuncId} {sp : FuncId → Option (List Sv → St → Tree FLeaf)} {fuel d f : Nat} (hT : TbOk P tb) (hm : P.follows .mixedOrders = true) (hs : SpOk P sp) {args : List Sv} {σ : St} {l : List Bool} {x : Vv}
    (h : res (evFn tb wf sp fuel d f args σ) = some (l, x)) (hl : ∀ b ∈ l, b = true) : ∃ σ', FunOk P f args σ x.sv σ' := by
  obtain ⟨y, h1, h2⟩ := res_at h hl
  exact ⟨y.2, (evFn_at hT hm hs h1).val (fun e => Sv.vv_den h2 e e) x.sv_free⟩
/-- A function of plain values: what it hands back, in any world. -/
theorem res_any {wf : List FuncId} {sp : FuncId → Option (List Sv → St → Tree FLeaf)} {fuel d f : Nat} (hT : TbOk P tb) (hm : P.follows .mixedOrders = true) (hs : SpOk P sp) {args : List Sv} (hargs : ∀ x ∈ args, x.freeB = true) {l : List Bool} {x : Vv}
    (h : res (evFn tb wf sp fuel d f args st0) = some (l, x)) (hl : ∀ b ∈ l, b = true) (w : World) : Calls P f (args.map (·.den env0)).toArray w fun en w' => en = .returned (x.sv.den env0) ∧ Below w.heap.size w w' := by
  obtain ⟨σ', h1⟩ := res_ok hT hm hs h hl
  exact h1.any hargs x.sv_free w

/-! Arguments that are numbers and truth values: the names that stand for them. -/
def canon (ls : List Lf) (cs : List Cv) : List Cv := symL (bOf cs) (nOf cs) 0 ls
theorem canon_den {ls : List Lf} {cs : List Cv} (h : isL ls cs = true) (e e' : Env) : (Sv.agg cs).den e = (Sv.agg (canon ls cs)).den e' := by
  show Value.agg (densA e cs) = Value.agg (densA e' (canon ls cs))
  congr 1
  unfold densA canon
  congr 1
  apply List.ext_getElem?
  intro i
  rw [List.getElem?_map, List.getElem?_map]
  exact isL_den h (fun i => by rw [Nat.zero_add]) e e' i
end
end Sx
end Go.Proofs.Ytgiinciclnekjaa

/-
  A function that hands back a new row of numbers.
-/
set_option linter.unusedSimpArgs false
set_option linter.unusedVariables false
namespace Go.Proofs.Ytgiinciclnekjaa
namespace Sx
open Go.RowKit

section
variable {P : Program} {tb : Tb}
/-- A state that knows one more block, and one more number. -/
def addRo (σ : St) (t : TypeId) (cs : List Cv) : St := { σ with bk := (σ.nx, .ar t false cs none) :: σ.bk, nx := σ.nx + 1, nl := σ.nn :: σ.nl, nn := σ.nn + 1 }
def addEnv (σ : St) (e : Env) (p : Nat × Nat) (m : Nat) : Env := ⟨fun id => if id = σ.nx then p else e.pl id, fun c => if c = σ.nn then m else e.nm c⟩
theorem kn_look {σ : St} {id : Nat} : kn (look σ) id ↔ (alook σ.bk id).isSome = true := by
  unfold kn
  simp only [look, Option.isSome_map]
theorem knn_look {σ : St} {c : Nat} : knn (look σ) c ↔ memb σ.nl c = true := by
  unfold knn
  simp only [look]
  split
  · rename_i h; simp [h]
  · rename_i h; simp [h]
theorem addRo_agree {σ : St} {e : Env} {p : Nat × Nat} {m : Nat} (h1 : alook σ.bk σ.nx = none) (h2 : memb σ.nl σ.nn = false) : Agree (look σ) e (addEnv σ e p m) := by
  refine ⟨fun id hid => ?_, fun c hc => ?_⟩
  · have : id ≠ σ.nx := fun e => by rw [kn_look, e, h1] at hid; cases hid
    exact if_neg this
  · have : c ≠ σ.nn := fun e => by rw [knn_look, e, h2] at hc; cases hc
    exact if_neg this
theorem addRo_sub (σ : St) (t : TypeId) (cs : List Cv) : Sub (look σ) (look (addRo σ t cs)) := by
  refine ⟨fun id hid => ?_, fun c hc => ?_⟩
  · rw [kn_look] at hid ⊢
    simp only [addRo, alook]
    split
    · rfl
    · exact hid
  · rw [knn_look] at hc ⊢
    simp only [addRo, memb]
    split
    · rfl
    · exact hc
theorem Hp.addRo {C : Ctx} {e : Env} {σ : St} {w : World} (h : Hp C e (look σ) w) (h1 : alook σ.bk σ.nx = none) (h2 : memb σ.nl σ.nn = false) {t : TypeId} {cs : List Cv} (hf : cs.all Cv.freeB = true) {p : Nat × Nat} {m : Nat} (hp : p.1 < w.heap.size)
    (hnew : ∀ id b, look σ (.k id) = some (.bk b) → b.live = true → (e.pl id).1 ≠ p.1) (hM : C.M p.1) (hfz : ∀ j, j < cs.length → w.frozen? ⟨p.1, p.2 + j, none⟩ = false) (hc : ∀ j c, cs[j]? = some c → w.cell? ⟨p.1, p.2 + j, none⟩ = some (c.den e)) : Hp C (addEnv σ e p m) (look (Sx.addRo σ t cs)) w := by
  have hA := addRo_agree (e := e) (p := p) (m := m) h1 h2
  have hS := addRo_sub σ t cs
  have kold : ∀ id, id ≠ σ.nx → look (Sx.addRo σ t cs) (.k id) = look σ (.k id) := fun id hid => by
    simp only [look, Sx.addRo, alook]
    rw [beq_ff.2 (Ne.symm hid)]
  have cold : ∀ id off, id ≠ σ.nx → look (Sx.addRo σ t cs) (.c id off) = look σ (.c id off) := fun id off hid => by
    simp only [look, Sx.addRo, alook]
    rw [beq_ff.2 (Ne.symm hid)]
  have knew : look (Sx.addRo σ t cs) (.k σ.nx) = some (.bk (.ar t false cs.length none)) := by
    simp only [look, Sx.addRo, alook, Nat.beq_refl]; rfl
  have cnew : ∀ off, look (Sx.addRo σ t cs) (.c σ.nx off) = (cs[off]?).map .cv := fun off => by
    simp only [look, Sx.addRo, alook, Nat.beq_refl]; rfl
  have ad : ∀ id off, id ≠ σ.nx → (addEnv σ e p m).ad id off = e.ad id off := fun id off hid => by
    unfold Env.ad; show (⟨(if id = σ.nx then p else e.pl id).1, _, none⟩ : Addr) = _
    simp only [addEnv, if_neg hid]
  have pl : ∀ id, id ≠ σ.nx → (addEnv σ e p m).pl id = e.pl id := fun id hid => if_neg hid
  have pln : (addEnv σ e p m).pl σ.nx = p := if_pos rfl
  refine ⟨h.new, ?_, ?_, ?_, ?_, ?_, ?_, ?_, h.pin.mono hA hS, h.fr⟩
  · intro id off v hv
    by_cases hid : id = σ.nx
    · subst hid
      rw [cnew] at hv
      obtain ⟨c, hc1, hc2⟩ := Option.map_eq_some_iff.1 hv
      obtain rfl : c = v := by simpa using hc2
      have hfc := List.all_eq_true.1 hf c (List.mem_of_getElem? hc1)
      refine ⟨Cv.free_sc hfc _, ⟨t, false, cs.length, none, knew, (List.getElem?_eq_some_iff.1 hc1).1⟩, ?_⟩
      have := hc off c hc1
      rw [Cv.den_agree (s := look σ) hA (Cv.free_sc hfc _)]
      unfold Env.ad
      rw [pln]
      exact this
    · rw [cold id off hid] at hv
      obtain ⟨q1, ⟨t', ro, n, cp, q2, q3⟩, q4⟩ := h.cl id off v hv
      refine ⟨q1.sub hS, ⟨t', ro, n, cp, by rw [kold id hid]; exact q2, q3⟩, ?_⟩
      rw [ad id off hid, Cv.den_agree hA q1]
      exact q4
  · intro id t' n cp hb off ho
    by_cases hid : id = σ.nx
    · subst hid
      rw [knew] at hb
      obtain ⟨rfl, rfl, rfl⟩ : t = t' ∧ cs.length = n ∧ none = cp := by simpa using hb
      unfold Env.ad
      rw [pln]
      refine ⟨hfz off ho, ?_⟩
      rw [hc off cs[off] (List.getElem?_eq_getElem ho)]
      rfl
    · rw [kold id hid] at hb
      rw [ad id off hid]
      exact h.ar id t' n cp hb off ho
  · intro id t' ro n f cp hb off ho
    by_cases hid : id = σ.nx
    · subst hid; rw [knew] at hb; cases hb
    · rw [kold id hid] at hb
      rw [ad id off hid]
      exact h.oq id t' ro n f cp hb off ho
  · intro id b c es hb hcp
    by_cases hid : id = σ.nx
    · subst hid
      rw [knew] at hb
      obtain rfl : BI.ar t false cs.length none = b := by simpa using hb
      cases hcp
    · rw [kold id hid] at hb
      obtain ⟨q1, q2, cs', q3, q4, q5⟩ := h.cp id b c es hb hcp
      refine ⟨hS.2 c q1, by rw [pl id hid]; exact q2, cs', by rw [pl id hid]; exact q3, by rw [q4, hA.2 c q1], q5⟩
  · intro id id' b b' hb hb' hr hl hne
    by_cases hid : id = σ.nx
    · subst hid
      rw [knew] at hb
      rw [pln]
      have hid' : id' ≠ σ.nx := Ne.symm hne
      rw [kold id' hid'] at hb'
      rw [pl id' hid']
      exact (hnew id' b' hb' hl).symm
    · rw [kold id hid] at hb
      rw [pl id hid]
      by_cases hid' : id' = σ.nx
      · subst hid'
        rw [pln]
        exact hnew id b hb (by cases b <;> first | rfl | cases hr)
      · rw [kold id' hid'] at hb'
        rw [pl id' hid']
        exact h.inj id id' b b' hb hb' hr hl hne
  · intro id b hb hl
    by_cases hid : id = σ.nx
    · subst hid; rw [pln]; exact hp
    · rw [kold id hid] at hb
      rw [pl id hid]
      exact h.lt id b hb hl
  · intro id b hb hr
    by_cases hid : id = σ.nx
    · subst hid
      rw [knew] at hb
      rw [pln]
      exact hM
    · rw [kold id hid] at hb
      rw [pl id hid]
      exact h.mu id b hb hr

/-! A row that is handed back. -/
def intsL : List Cv → Option (List Int)
  | [] => some []
  | .i .i64 n _ :: cs => match intsL cs with
    | some xs => some (n :: xs)
    | none => none
  | _ => none
theorem intsL_at : ∀ {cs : List Cv} {xs : List Int}, intsL cs = some xs → cs.length = xs.length ∧ ∀ j, j < xs.length → ∃ l, cs[j]? = some (.i .i64 (xs.getD j 0) l)
  | [], xs, h => by obtain rfl := Option.some.inj h; exact ⟨rfl, fun j hj => by cases hj⟩
  | .i .i64 n l :: cs, xs, h => by
    simp only [intsL] at h
    split at h
    · rename_i ys hy
      obtain rfl := Option.some.inj h
      obtain ⟨k1, k2⟩ := intsL_at hy
      refine ⟨by simp [k1], fun j hj => ?_⟩
      cases j with
      | zero => exact ⟨l, rfl⟩
      | succ j =>
        obtain ⟨l', hl'⟩ := k2 j (by simpa using hj)
        exact ⟨l', by simpa using hl'⟩
    · cases h
def rowOf (y : FLeaf) : Option (List Int) := match y.1 with
  | .one (.slc id (.lit 0) (.lit k) _) => match alook y.2.bk id with
    | some (.ar _ false cs _) => match Nat.ble k cs.length && Nat.ble 1 k with
      | true => intsL (cs.take k)
      | false => none
    | _ => none
  | .one (.val (.slice none 0 0)) => some []
  | _ => none
def rdR : Tree FLeaf → Option (List Int)
  | .leaf y => rowOf y
  | .must b t => bif b then rdR t else none
  | .br b t f => bif b then rdR t else rdR f
  | .fail => none
theorem rdR_at : ∀ {T : Tree FLeaf} {xs : List Int}, rdR T = some xs → ∃ y, T.At y ∧ rowOf y = some xs
  | .leaf y, xs, h => ⟨y, rfl, h⟩
  | .must b t, xs, h => by
    cases b with
    | true => obtain ⟨y, h1, h2⟩ := rdR_at (T := t) h; exact ⟨y, ⟨rfl, h1⟩, h2⟩
    | false => cases h
  | .br b t f, xs, h => by
    cases b with
    | true => obtain ⟨y, h1, h2⟩ := rdR_at (T := t) h; exact ⟨y, Or.inl ⟨rfl, h1⟩, h2⟩
    | false => obtain ⟨y, h1, h2⟩ := rdR_at (T := f) h; exact ⟨y, Or.inr ⟨rfl, h1⟩, h2⟩
/-- A new row of numbers, in memory that was not there before. -/
def NewRow (w w' : World) (v : Value) (xs : List Int) : Prop := (xs = [] ∧ v = .slice none 0 0) ∨ (xs ≠ [] ∧ ∃ b off c, v = .slice (some ⟨b, off, none⟩) xs.length c ∧ w.heap.size ≤ b ∧ b < w'.heap.size ∧ ∀ k, k < xs.length → w'.cell? ⟨b, off + k, none⟩ = some (.int .i64 (xs.getD k 0)) ∧ w'.frozen? ⟨b, off + k, none⟩ = false)
theorem row_any {f : FuncId} {args : List Sv} {y : FLeaf} {xs : List Int} (h : FunOk P f args st0 y.1 y.2) (hr : rowOf y = some xs) (hargs : ∀ x ∈ args, x.freeB = true) (e : Env) (w : World) :
    Calls P f (args.map (·.den e)).toArray w fun en w' => ∃ v, en = .returned v ∧ NewRow w w' v xs ∧ Below w.heap.size w w' := by
  have he : args.map (·.den e) = args.map (·.den env0) := List.map_congr_left fun x hx => Sv.free_den (hargs x hx) env0 e
  rw [he]
  refine (h.run (ctx0 w) env0 w (hp0 w) fun x hx => Sv.free_sc (hargs x hx) _).mono fun en w' => ?_
  rintro ⟨e', -, hp, rfl, -⟩
  refine ⟨_, rfl, ?_, hp.fr.os, hp.fr.tape, hp.fr.output, hp.fr.size, fun k hk => hp.fr.block k hk (show ¬ w.heap.size ≤ k by omega)⟩
  unfold rowOf at hr
  split at hr
  · rename_i id k cap hv
    split at hr
    · rename_i t cs cp hb
      split at hr
      · rename_i hle
        simp only [Bool.and_eq_true, Nat.ble_eq] at hle
        obtain ⟨hle, hle1⟩ := hle
        obtain ⟨k1, k2⟩ := intsL_at hr
        have hk : xs.length = k := by rw [← k1, List.length_take]; omega
        have hkk : look y.2 (.k id) = some (.bk (.ar t false cs.length cp)) := by simp only [look, hb]; rfl
        rw [hv]
        refine Or.inr ⟨fun e => by rw [e] at hk; simp at hk; omega, (e'.pl id).1, (e'.pl id).2, cap.den e', ?_, hp.mu id _ hkk rfl, hp.lt id _ hkk rfl, fun j hj => ?_⟩
        · rw [hk]; rfl
        · obtain ⟨l, hl⟩ := k2 j hj
          have hj2 : j < k := by omega
          rw [List.getElem?_take_of_lt hj2] at hl
          have := (hp.cl id j (.i .i64 (xs.getD j 0) l) (by simp only [look, hb, Option.bind_some, Blk.cell, hl]; rfl)).2.2
          exact ⟨this, (hp.ar id t cs.length cp hkk j (by omega)).1⟩
      · cases hr
    · cases hr
  · rename_i hv
    obtain rfl : [] = xs := by simpa using hr
    rw [hv]
    exact Or.inl ⟨rfl, rfl⟩
  · cases hr
/-- The row, in a state of the caller. -/
def rowSv (σ : St) : List Int → Sv
  | [] => .one (.val (.slice none 0 0))
  | x :: xs => .one (.slc σ.nx (.lit 0) (.lit (xs.length + 1)) (.nam σ.nn))
def rowSt (σ : St) (t : TypeId) : List Int → St
  | [] => σ
  | x :: xs => addRo σ t ((x :: xs).map fun n => .i .i64 n false)
theorem row_fun {f : FuncId} {args : List Sv} {σ : St} {xs : List Int} {t : TypeId} (h1 : alook σ.bk σ.nx = none) (h2 : memb σ.nl σ.nn = false) (h : ∀ (e : Env) (w : World), Calls P f (args.map (·.den e)).toArray w fun en w' => ∃ v, en = .returned v ∧ NewRow w w' v xs ∧ Below w.heap.size w w') :
    FunOk P f args σ (rowSv σ xs) (rowSt σ t xs) := by
  refine ⟨fun C e w hp _ => ?_, fun id off hk _ => ?_⟩
  case refine_2 =>
    cases xs with
    | nil => rfl
    | cons x xs =>
      have hne : id ≠ σ.nx := fun e => by rw [kn_look, e, h1] at hk; cases hk
      simp only [rowSt, Sx.addRo, look, alook]
      rw [beq_ff.2 (Ne.symm hne)]
  refine (h e w).mono fun en w' => ?_
  rintro ⟨v, rfl, hN, hb⟩
  cases xs with
  | nil =>
    rcases hN with ⟨_, rfl⟩ | ⟨h0, _⟩
    · exact ⟨e, Agree.refl _ _, hp.keep hb, rfl, trivial⟩
    · exact absurd rfl h0
  | cons x xs =>
    rcases hN with ⟨h0, _⟩ | ⟨-, b, off, c, rfl, hlo, hhi, hcell⟩
    · cases h0
    · refine ⟨addEnv σ e (b, off) c, addRo_agree h1 h2, (hp.keep hb).addRo h1 h2 (by simp [List.all_eq_true, Cv.freeB]) hhi (fun id bi hbi hl => ?_) (hp.new b (Nat.le_trans hp.fr.size hlo)) (fun j hj => (hcell j (by simpa using hj)).2) (fun j cv hj => ?_), ?_, ?_⟩
      · have := hp.lt id bi hbi hl
        show (e.pl id).1 ≠ b
        omega
      · rw [List.getElem?_map] at hj
        obtain ⟨n, hn, rfl⟩ := Option.map_eq_some_iff.1 hj
        have hlt := (List.getElem?_eq_some_iff.1 hn).1
        have := (hcell j hlt).1
        rw [List.getD_eq_getElem?_getD, hn] at this
        exact this
      · show Ending.returned _ = Ending.returned (Value.slice (some ((addEnv σ e (b, off) c).ad σ.nx 0)) (xs.length + 1) ((addEnv σ e (b, off) c).nm σ.nn))
        have e1 : (addEnv σ e (b, off) c).pl σ.nx = (b, off) := if_pos rfl
        have e2 : (addEnv σ e (b, off) c).nm σ.nn = c := if_pos rfl
        unfold Env.ad
        rw [e1, e2]
        rfl
      · refine ⟨?_, trivial, trivial, ?_⟩
        · rw [kn_look]; simp [rowSt, Sx.addRo, alook]
        · show knn _ _
          rw [knn_look]; simp [rowSt, Sx.addRo, memb]
end
end Sx
end Go.Proofs.Ytgiinciclnekjaa
