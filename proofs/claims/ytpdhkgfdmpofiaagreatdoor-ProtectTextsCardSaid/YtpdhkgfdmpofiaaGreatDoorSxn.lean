/-
  Functions.
-/
import Derived.Test.YtpdhkgfdmpofiaaGreatDoorSxm
set_option linter.unusedSimpArgs false
set_option linter.unusedVariables false
namespace Go.Proofs.YtpdhkgfdmpofiaaGreatDoor
namespace Sx
open Go.RowKit

section
variable {P : Program} {tb : Tb}

/-! What is handed back. -/
def resV (tb : Tb) (σ : St) : ResultVar → Option Sv
  | .tmp t => alook σ.tm t
  | .cell a t => match alook σ.tm a with
    | some (.one (.ptr id (.lit k))) => match alook σ.bk id with
      | some (.ar _ _ cs _) => match tb.agg t, tb.info t with
        | some false, _ => (cs[k]?).map .one
        | some true, some i => match Nat.ble (k + i.size) cs.length with
          | true => some (.agg ((cs.drop k).take i.size))
          | false => none
        | _, _ => none
      | _ => none
    | _ => none
def comp : Sv → Option (Bool × List Cv)
  | .one c => some (false, [c])
  | .agg cs => some (true, cs)
  | .tup _ => none
theorem comp_den {v : Sv} {p : Bool × List Cv} (h : comp v = some p) : (∀ e, compDen e p = v.den e) ∧ ∀ s, v.sc s → scs s p.2 := by
  cases v with
  | one c =>
    obtain rfl := Option.some.inj h
    refine ⟨fun e => rfl, fun s hs x hx => ?_⟩
    obtain rfl : x = c := by simpa using hx
    exact hs
  | agg cs => obtain rfl := Option.some.inj h; exact ⟨fun e => rfl, fun s hs => hs⟩
  | tup _ => cases h
def comps (tb : Tb) (σ : St) : List ResultVar → Option (List (Bool × List Cv))
  | [] => some []
  | r :: rs => match (resV tb σ r).bind comp, comps tb σ rs with
    | some p, some ps => some (p :: ps)
    | _, _ => none
def evRes (tb : Tb) (σ : St) : List ResultVar → Option Sv
  | [r] => resV tb σ r
  | rs => (comps tb σ rs).map .tup
def resRun (tmps : Array Value) : ResultVar → Sem Value
  | .tmp t => pure (tmps.getD t undef)
  | .cell p t => do loadVar t (← asAddr (tmps.getD p undef))
theorem resV_run (hT : TbOk P tb) {C : Ctx} {N : Nat} {e : Env} {σ : St} {a : Act} {w : World} (hR : Rel C N e (look σ) a w) {r : ResultVar} {v : Sv} (h : resV tb σ r = some v) :
    (resRun a.tmps r).run P w = .ok (v.den e) w ∧ v.sc (look σ) := by
  cases r with
  | tmp t =>
    have h1 : look σ (.t t) = some (.sv v) := by simp only [look]; rw [show alook σ.tm t = some v from h]; rfl
    obtain ⟨_, h2, h3⟩ := hR.tm t v h1
    exact ⟨by rw [← h2]; rfl, h3⟩
  | cell p t =>
    simp only [resV] at h
    split at h
    · rename_i id k hp
      have h1 : look σ (.t p) = some (.sv (.one (.ptr id (.lit k)))) := by simp only [look, hp]; rfl
      obtain ⟨_, h2, _⟩ := hR.tm p _ h1
      split at h
      · rename_i t' ro cs cp hb
        have hcell : ∀ j c, cs[j]? = some c → w.cell? (e.ad id j) = some (c.den e) ∧ c.sc (look σ) := by
          intro j c hc
          have h3 : look σ (.c id j) = some (.cv c) := by simp only [look, hb, Option.bind_some, Blk.cell, hc, Option.map_some]
          obtain ⟨h4, _, h5⟩ := hR.hp.cl id j c h3
          exact ⟨h5, h4⟩
        split at h
        · rename_i ha
          obtain ⟨c, hc, rfl⟩ := Option.map_eq_some_iff.1 h
          obtain ⟨h3, h4⟩ := hcell k c hc
          refine ⟨?_, h4⟩
          simp only [resRun, Sem.run_bind, h2, den_ptr, asAddr, Sem.run_pure, Result.andThen_ok, loadVar, run_agg hT ha, Bool.false_eq_true, if_false, run_load]
          rw [show Sn.den e (.lit k) = k from rfl, h3]
          rfl
        · rename_i i ha hi
          split at h
          · rename_i hle
            rw [Nat.ble_eq] at hle
            obtain rfl := Option.some.inj h
            have hr := run_loadCells (P := P) w (e.ad id k) i.size (fun j => (cs.getD (k + j) (.val undef)).den e) (fun j hj => by
              rw [ad_add]
              have hlt : k + j < cs.length := by omega
              exact (hcell (k + j) _ (by simp [hlt])).1)
            refine ⟨?_, fun c hc => ?_⟩
            · simp only [resRun, Sem.run_bind, h2, den_ptr, asAddr, Sem.run_pure, Result.andThen_ok, loadVar, run_agg hT ha, if_true, run_size hT hi]
              rw [show Sn.den e (.lit k) = k from rfl, hr]
              try simp only [Result.andThen_ok, den_agg]
              show Result.ok (Value.agg _) w = Result.ok (Value.agg _) w
              congr 2
              unfold densA
              congr 1
              apply List.ext_getElem?
              intro j
              by_cases hj : j < i.size
              · have hlt : k + j < cs.length := by omega
                rw [List.getElem?_map, List.getElem?_range hj, List.getElem?_map, List.getElem?_take_of_lt hj, List.getElem?_drop]
                simp [hlt]
              · rw [List.getElem?_eq_none (by simp; omega), List.getElem?_eq_none (by simp; omega)]
            · obtain ⟨j, hj⟩ := List.mem_iff_getElem?.1 (List.mem_of_mem_drop (List.mem_of_mem_take hc))
              exact (hcell j c hj).2
          · cases h
        · cases h
      · cases h
    · cases h
theorem comps_run (hT : TbOk P tb) {C : Ctx} {N : Nat} {e : Env} {σ : St} {a : Act} {w : World} (hR : Rel C N e (look σ) a w) : ∀ {rs : List ResultVar} {ps : List (Bool × List Cv)}, comps tb σ rs = some ps →
    (rs.mapM (resRun a.tmps)).run P w = .ok (ps.map (compDen e)) w ∧ ∀ p ∈ ps, scs (look σ) p.2
  | [], ps, h => by
    obtain rfl := Option.some.inj h
    exact ⟨rfl, fun p hp => by cases hp⟩
  | r :: rs, ps, h => by
    simp only [comps] at h
    split at h
    · rename_i p ps' hp hps
      obtain rfl := Option.some.inj h
      obtain ⟨v, hv, hc⟩ := Option.bind_eq_some_iff.1 hp
      obtain ⟨d, sc⟩ := comp_den hc
      obtain ⟨r1, r2⟩ := resV_run hT hR hv
      obtain ⟨i1, i2⟩ := comps_run hT hR hps
      refine ⟨?_, fun q hq => ?_⟩
      · rw [List.mapM_cons, Sem.run_bind, r1, Result.andThen_ok, Sem.run_bind, i1, Result.andThen_ok]
        rw [List.map_cons, d e]
        rfl
      · cases hq with
        | head => exact sc _ r2
        | tail _ hq => exact i2 q hq
    · cases h
theorem evRes_run (hT : TbOk P tb) {C : Ctx} {N : Nat} {e : Env} {σ : St} {a : Act} {w : World} (hR : Rel C N e (look σ) a w) {fn : Func} {v : Sv} (h : evRes tb σ fn.results.toList = some v) :
    (results fn a.tmps).run P w = .ok (v.den e) w ∧ v.sc (look σ) := by
  have hres : ∀ vs : List Value, (fn.results.toList.mapM (resRun a.tmps)).run P w = .ok vs w → (results fn a.tmps).run P w = .ok (if h : vs.toArray.size = 1 then vs.toArray[0] else .tuple vs.toArray) w := by
    intro vs hvs
    have he : results fn a.tmps = (do
        let vs ← fn.results.mapM (resRun a.tmps)
        pure (if h : vs.size = 1 then vs[0] else .tuple vs)) := by
      unfold results
      first
        | rfl
        | (congr 2; done)
        | (congr 2; funext r; cases r <;> rfl)
    rw [he, Sem.run_bind, Array.mapM_eq_mapM_toList, Sem.run_map, hvs]
    rfl
  unfold evRes at h
  split at h
  · rename_i r hr
    obtain ⟨r1, r2⟩ := resV_run hT hR h
    refine ⟨?_, r2⟩
    rw [hres [v.den e] (by rw [hr, List.mapM_cons, Sem.run_bind, r1, Result.andThen_ok]; rfl)]
    rfl
  · rename_i hn
    obtain ⟨ps, hps, rfl⟩ := Option.map_eq_some_iff.1 h
    obtain ⟨i1, i2⟩ := comps_run hT hR hps
    refine ⟨?_, i2⟩
    rw [hres _ i1]
    have hlen : ps.length = fn.results.toList.length := by
      have : ∀ (rs : List ResultVar) (ps : List (Bool × List Cv)), comps tb σ rs = some ps → ps.length = rs.length := by
        intro rs
        induction rs with
        | nil => intro ps h; obtain rfl := Option.some.inj h; rfl
        | cons r rs ih =>
          intro ps h
          simp only [comps] at h
          split at h
          · rename_i p ps' _ hps'
            obtain rfl := Option.some.inj h
            simp [ih _ hps']
          · cases h
      exact this _ _ hps
    rw [dif_neg]
    · rfl
    · simp only [List.size_toArray, List.length_map]
      rw [hlen]
      intro h1
      obtain ⟨r, hr⟩ := List.length_eq_one_iff.1 h1
      exact hn r hr

/-! A function's own frame. -/
def argTm : Nat → List Sv → List (Nat × Sv)
  | _, [] => []
  | i, v :: vs => (i, v) :: argTm (i + 1) vs
def enterSt (σ : St) (args : List Sv) : St := { σ with tm := argTm 0 args, lg := [] }
theorem argTm_at : ∀ {args : List Sv} {i t : Nat} {v : Sv}, alook (argTm i args) t = some v → i ≤ t ∧ args[t - i]? = some v
  | [], i, t, v, h => by cases h
  | u :: us, i, t, v, h => by
    simp only [argTm, alook] at h
    cases hb : Nat.beq i t with
    | true =>
      rw [hb] at h
      obtain rfl := beq_iff'.1 hb
      obtain rfl := Option.some.inj h
      exact ⟨Nat.le_refl _, by simp⟩
    | false =>
      rw [hb] at h
      obtain ⟨h1, h2⟩ := argTm_at h
      refine ⟨by omega, ?_⟩
      rw [show t - i = (t - (i + 1)) + 1 by omega]
      simpa using h2
theorem enter_rel {C : Ctx} {e : Env} {σ : St} {w : World} {args : List Sv} {N : Nat} (hp : Hp C e (look σ) w) (ha : ∀ x ∈ args, x.sc (look σ)) (hN : args.length ≤ N) :
    Rel C N e (look (enterSt σ args)) { tmps := (args.map (·.den e)).toArray ++ Array.replicate (N - (args.map (·.den e)).toArray.size) undef, defers := [] } w := by
  have hS : Sub (look σ) (look (enterSt σ args)) := ⟨fun _ h => h, fun _ h => h⟩
  refine ⟨by simp; omega, rfl, ?_, hp.congr fun l hl => ?_⟩
  · intro t v ht
    have h1 : alook (argTm 0 args) t = some v := by
      simp only [look, enterSt] at ht
      obtain ⟨u, hu, he⟩ := Option.map_eq_some_iff.1 ht
      obtain rfl : u = v := by simpa using he
      exact hu
    obtain ⟨_, h2⟩ := argTm_at h1
    rw [Nat.sub_zero] at h2
    have hlt := (List.getElem?_eq_some_iff.1 h2).1
    refine ⟨by omega, ?_, (ha v (List.mem_of_getElem? h2)).sub hS⟩
    show ((args.map (·.den e)).toArray ++ _).getD t undef = _
    rw [Array.getD_eq_getD_getElem?, Array.getElem?_append_left (by simpa using hlt)]
    simp [h2]
  · cases l with
    | t n => exact absurd rfl (hl n)
    | _ => rfl

/-! Ways of a function that meet at its end. -/
abbrev FLeaf := Sv × St
def peelF : Tree FLeaf → Option (List Bool × FLeaf)
  | .leaf x => some ([], x)
  | .must b t => (peelF t).map fun p => (b :: p.1, p.2)
  | _ => none
def join2F (σ : St) (b : Bool) (t f : Tree FLeaf) : Tree FLeaf := match peelF t, peelF f with
  | some (mt, (v, x)), some (mf, (u, y)) => match Sv.ite b v u, merge0 σ b x y with
    | some z, some m => musts (mt.map fun q => !b || q) (musts (mf.map fun q => b || q) (.leaf (z, m)))
    | _, _ => .br b t f
  | _, _ => .br b t f
def joinF (σ : St) : Tree FLeaf → Tree FLeaf
  | .leaf x => .leaf x
  | .must b t => .must b (joinF σ t)
  | .br b t f => join2F σ b (joinF σ t) (joinF σ f)
  | .fail => .fail
theorem peelF_at {l : List Bool} {x : FLeaf} : ∀ {t : Tree FLeaf}, peelF t = some (l, x) → (∀ b ∈ l, b = true) → t.At x
  | .leaf y, h, _ => by
    obtain ⟨_, rfl⟩ := Prod.mk.inj (Option.some.inj h)
    rfl
  | .must b t, h, hl => by
    obtain ⟨p, hp, he⟩ := Option.map_eq_some_iff.1 h
    obtain ⟨rfl, rfl⟩ := Prod.mk.inj he
    exact ⟨hl b List.mem_cons_self, peelF_at hp fun c hc => hl c (List.mem_cons_of_mem _ hc)⟩
  | .br _ _ _, h, _ => by cases h
  | .fail, h, _ => by cases h
theorem peelF_every {p : FLeaf → Prop} {l : List Bool} {x : FLeaf} : ∀ {t : Tree FLeaf}, peelF t = some (l, x) → t.Every p → p x
  | .leaf y, h, k => by
    obtain ⟨_, rfl⟩ := Prod.mk.inj (Option.some.inj h)
    exact k
  | .must b t, h, k => by
    obtain ⟨q, hq, he⟩ := Option.map_eq_some_iff.1 h
    obtain ⟨_, rfl⟩ := Prod.mk.inj he
    exact peelF_every (t := t) hq k
  | .br _ _ _, h, _ => by cases h
  | .fail, h, _ => by cases h
theorem join2F_every {σ : St} {b : Bool} {t f : Tree FLeaf} (ht : t.Every fun x => Ext σ x.2) (hf : f.Every fun x => Ext σ x.2) : (join2F σ b t f).Every fun x => Ext σ x.2 := by
  unfold join2F
  split
  · split
    · rename_i hm; exact every_musts (every_musts (merge_ext hm))
    · exact ⟨ht, hf⟩
  · exact ⟨ht, hf⟩
theorem joinF_every {σ : St} : ∀ {T : Tree FLeaf}, (T.Every fun x => Ext σ x.2) → (joinF σ T).Every fun x => Ext σ x.2
  | .leaf _, h => h
  | .must _ t, h => joinF_every (T := t) h
  | .br _ _ _, h => join2F_every (joinF_every h.1) (joinF_every h.2)
  | .fail, _ => trivial
/-- What a leaf hands back, for the way that it stands for. -/
def StandsF (σ : St) (T : Tree FLeaf) (y : FLeaf) : Prop := ∃ x, T.At x ∧ (WS (look σ) → RelTo σ x.2 y.2 ∧ (∀ e, y.1.den e = x.1.den e) ∧ (x.1.sc (look x.2) → y.1.sc (look y.2)))
theorem join2F_ok {σ : St} {b : Bool} {t f : Tree FLeaf} (ht : t.Every fun x => Ext σ x.2) (hf : f.Every fun x => Ext σ x.2) {y : FLeaf} (h : (join2F σ b t f).At y) : StandsF σ (.br b t f) y := by
  have self : (Tree.br b t f).At y → StandsF σ (.br b t f) y := fun hy => ⟨y, hy, fun _ => ⟨RelTo.refl _ _, fun _ => rfl, id⟩⟩
  unfold join2F at h
  split at h
  · rename_i mt v x mf u z hpt hpf
    split at h
    · rename_i r m hr hm
      rw [At_musts, At_musts] at h
      obtain ⟨h1, h2, h3⟩ := h
      obtain rfl : (r, m) = y := h3
      have ex : Ext σ x := peelF_every hpt ht
      have ez : Ext σ z := peelF_every hpf hf
      obtain ⟨d, sc⟩ := Sv.ite_den hr
      have key : ∀ {X : FLeaf}, X = (if b = true then (v, x) else (u, z)) → (Tree.br b t f).At X → StandsF σ (.br b t f) (r, m) := by
        intro X hX hAt
        refine ⟨X, hAt, fun hws => ⟨?_, fun e => ?_, fun _ => sc _⟩⟩
        · intro C N e a w hp hr'
          obtain ⟨k1, _, k3⟩ := merge_wk hws ex ez hm (if b = true then x else z) rfl
          have hx2 : X.2 = if b = true then x else z := by rw [hX]; cases b <;> rfl
          rw [hx2] at hr'
          exact hr'.wk k1 ⟨fun id p hh => k3.1 id (hp.1 id p hh), fun c q hh => k3.2 c (hp.2 c q hh)⟩
        · rw [d e, hX]; cases b <;> rfl
      by_cases hb : b = true
      · refine key (X := (v, x)) (by rw [if_pos hb]) (Or.inl ⟨hb, peelF_at hpt fun q hq => ?_⟩)
        have := h1 _ (List.mem_map.2 ⟨q, hq, rfl⟩)
        rw [hb] at this; simpa using this
      · have hb' : b = false := by simpa using hb
        refine key (X := (u, z)) (by rw [if_neg hb]) (Or.inr ⟨hb', peelF_at hpf fun q hq => ?_⟩)
        have := h2 _ (List.mem_map.2 ⟨q, hq, rfl⟩)
        rw [hb'] at this; simpa using this
    · exact self h
  · exact self h
theorem joinF_ok {σ : St} : ∀ {T : Tree FLeaf} {y : FLeaf}, (T.Every fun x => Ext σ x.2) → (joinF σ T).At y → StandsF σ T y
  | .leaf x, y, _, h => ⟨y, h, fun _ => ⟨RelTo.refl _ _, fun _ => rfl, id⟩⟩
  | .must b t, y, he, h => by
    obtain ⟨x, h1, h2⟩ := joinF_ok (T := t) he h.2
    exact ⟨x, ⟨h.1, h1⟩, h2⟩
  | .br b t f, y, he, h => by
    obtain ⟨x, h1, h2⟩ := join2F_ok (joinF_every he.1) (joinF_every he.2) h
    rcases h1 with ⟨hb, h1⟩ | ⟨hb, h1⟩
    · obtain ⟨z, k1, k2⟩ := joinF_ok he.1 h1
      exact ⟨z, Or.inl ⟨hb, k1⟩, fun hw => ⟨(k2 hw).1.trans (h2 hw).1, fun e => ((h2 hw).2.1 e).trans ((k2 hw).2.1 e), fun hs => (h2 hw).2.2 ((k2 hw).2.2 hs)⟩⟩
    · obtain ⟨z, k1, k2⟩ := joinF_ok he.2 h1
      exact ⟨z, Or.inr ⟨hb, k1⟩, fun hw => ⟨(k2 hw).1.trans (h2 hw).1, fun e => ((h2 hw).2.1 e).trans ((k2 hw).2.1 e), fun hs => (h2 hw).2.2 ((k2 hw).2.2 hs)⟩⟩
  | .fail, _, _, h => h.elim

def outF (tb : Tb) (rs : List ResultVar) (x : Leaf) : Tree FLeaf := match x.1 with
  | .stop _ => .fail
  | .exit _ => .fail
  | _ => match evRes tb x.2 rs with
    | some v => fV v fun v => .leaf (v, x.2)
    | none => .fail
theorem outF_eq {tb : Tb} {rs : List ResultVar} {x : Leaf} : outF tb rs x = match x.1 with
    | .stop _ => .fail
    | .exit _ => .fail
    | _ => match evRes tb x.2 rs with
      | some v => .leaf (v, x.2)
      | none => .fail := by
  simp only [outF, fV_eq]
/-- The slots of variables. -/
def asgOps : List Oper → List Nat → List Nat
  | [], acc => acc
  | o :: l, acc => match o.op, o.dst with
    | .assign _, some d => asgOps l (bif memb acc d then acc else d :: acc)
    | _, _ => asgOps l acc
def asg : Nat → Code → List Nat → List Nat
  | 0, _, acc => acc
  | n + 1, c, acc => match c with
    | .region _ ops _ => asgOps ops.toList acc
    | .seq a b => asg n b (asg n a acc)
    | .cond _ a b => asg n b (asg n a acc)
    | .block _ b => asg n b acc
    | .loop b => asg n b acc
    | _ => acc
def withVr (σ : St) (l : List Nat) : St := { σ with vr := l }
theorem look_withVr (σ : St) (l : List Nat) : look (withVr σ l) = look σ := by funext x; cases x <;> rfl
/-- What is looked at where ways meet: the variables; for a function f with f + 100000 among 'wf', whether they stand written out, and differ; for one with f + 200000: blocks may lose them. -/
def evVr (wf : List FuncId) (f fuel : Nat) (fn : Func) : List Nat := match fn.body with
  | some c => match memb wf (f + 200000) with
    | true => 99999 :: asg fuel c []
    | false => match memb wf (f + 100000) with
      | true => asg fuel c [] ++ (asg fuel c []).map (· + 100000)
      | false => asg fuel c []
  | none => []
def evBody (tb : Tb) (wf : List FuncId) (call : CallF) (fuel : Nat) (vs : List Nat) (fn : Func) (args : List Sv) (σ : St) : Tree FLeaf := match fn.body, Nat.ble args.length fn.ntmps with
  | some c, true => fEnt (enterSt (withVr σ vs) args) fun σ0 => joinF σ0 ((evC tb wf call fn.ntmps [] fuel c σ0).bind (outF tb fn.results.toList))
  | _, _ => .fail
/-- Functions that are told by what is known of them; the others by their text. -/
def evFn (tb : Tb) (wf : List FuncId) (sp : FuncId → Option (List Sv → St → Tree FLeaf)) (fuel : Nat) : Nat → CallF
  | 0, _, _, _ => .fail
  | d + 1, f, args, σ => match sp f with
    | some g => g args σ
    | none => match alook tb.fn f with
      | some fn => evBody tb wf (evFn tb wf sp fuel d) fuel (evVr wf f fuel fn) fn args σ
      | none => .fail
def SpOk (P : Program) (sp : FuncId → Option (List Sv → St → Tree FLeaf)) : Prop := ∀ f g, sp f = some g → ∀ args σ y, (g args σ).At y → FunOk P f args σ y.1 y.2
theorem unW_fns {lg : List Wr} {id off : Nat} (h : unW lg id off = true) : ∀ x ∈ lg, x.fn (.c id off) = none := by
  intro x hx
  have := List.all_eq_true.1 h x hx
  cases x with
  | cell i o v =>
    simp only [Bool.not_eq_true', Bool.and_eq_false_iff, beq_ff] at this
    simp only [Wr.fn]
    rw [if_neg (fun e => by rcases this with h | h; exact h e.1.symm; exact h e.2.symm)]
  | new i b =>
    simp only [Bool.not_eq_true', beq_ff] at this
    simp only [Wr.fn]
    rw [if_neg (fun e => this e.symm)]
  | _ => rfl
theorem ext_keep {σ0 σ' : St} (h : Ext σ0 σ') : KeepL σ0 σ' := by
  intro id off _ hu
  obtain ⟨ws, hw, hl⟩ := h
  rw [look_apps hw, upds_fns]
  have : fns ws (.c id off) = none := by
    cases hf : fns ws (.c id off) with
    | none => rfl
    | some z =>
      exfalso
      obtain ⟨x, hx1, hx2⟩ := fns_some (l := .c id off) (ws := ws) (by rw [hf]; rfl)
      have := unW_fns hu x (by rw [hl]; exact List.mem_append_left _ (List.mem_reverse.2 hx1))
      rw [this] at hx2; cases hx2
  dsimp only
  rw [this, Option.getD_none]
theorem evBody_ok {wf : List FuncId} {call : CallF} (hT : TbOk P tb) (hm : P.follows .mixedOrders = true) (hc : CallFOk P call) {fuel f : Nat} {vs : List Nat} {fn : Func} (hf : P.funcs[f]? = some fn) {args : List Sv} {σ : St} {y : FLeaf} (h : (evBody tb wf call fuel vs fn args σ).At y) : FunOk P f args σ y.1 y.2 := by
  unfold evBody at h
  split at h
  · rename_i c hb hle
    rw [Nat.ble_eq] at hle
    rw [fEnt_eq] at h
    have hev : ((evC tb wf call fn.ntmps [] fuel c (enterSt (withVr σ vs) args)).bind (outF tb fn.results.toList)).Every fun x => Ext (enterSt (withVr σ vs) args) x.2 := by
      refine Tree.Every.bind (evC_every.mono fun x hx => ?_)
      rw [outF_eq]
      split
      · trivial
      · trivial
      · split
        · exact hx
        · trivial
    have hkeep := ext_keep ((joinF_every hev).at_ h)
    obtain ⟨x, h1, h2⟩ := joinF_ok hev h
    obtain ⟨z, k1, k2⟩ := Tree.At_bind.1 h1
    have hz : ∃ v, evRes tb z.2 fn.results.toList = some v ∧ x = (v, z.2) ∧ (z.1 = .normal ∨ z.1 = .ret) := by
      rw [outF_eq] at k2
      split at k2
      · exact k2.elim
      · exact k2.elim
      · rename_i n1 n2
        split at k2
        · rename_i v hv
          refine ⟨v, hv, k2.symm, ?_⟩
          cases hz : z.1 with
          | normal => exact Or.inl rfl
          | ret => exact Or.inr rfl
          | exit i => exact absurd hz (n2 i)
          | stop k => exact absurd hz (n1 k)
        · exact k2.elim
    obtain ⟨v, hv, rfl, hzo⟩ := hz
    refine ⟨fun C e w hp ha => ?_, fun id off hk hu => hkeep id off hk hu⟩
    -- every name that is known stands fast
    let C' : Ctx := { M := C.M, w0 := C.w0, pin := fun id => if (look σ (.k id)).isSome = true then some (e.pl id) else none, pinn := fun c => if (look σ (.n c)).isSome = true then some (e.nm c) else none }
    have hp' : Hp C' e (look σ) w := ⟨hp.new, hp.cl, hp.ar, hp.oq, hp.cp, hp.inj, hp.lt, hp.mu, ⟨(fun id p hh => by
      simp only [C'] at hh
      split at hh
      · rename_i hk; exact ⟨Option.some.inj hh, hk⟩
      · cases hh), (fun c m hh => by
      simp only [C'] at hh
      split at hh
      · rename_i hk; exact ⟨Option.some.inj hh, hk⟩
      · cases hh)⟩, hp.fr⟩
    have hR := enter_rel (σ := withVr σ vs) (by rw [look_withVr]; exact hp') (by rw [look_withVr]; exact ha) hle
    refine calls_of_wp hf hb ?_
    refine evC_ok hT hm hc fuel c (enterSt (withVr σ vs) args) z k1 C' e _ w _ hR fun e' a' w' hR' => ?_
    have hws : WS (look (enterSt (withVr σ vs) args)) := hR.ws
    obtain ⟨s1, s2, s3⟩ := h2 hws
    have hpins : (∀ id p, C'.pin id = some p → kn (look (enterSt (withVr σ vs) args)) id) ∧ ∀ d m, C'.pinn d = some m → knn (look (enterSt (withVr σ vs) args)) d := ⟨fun id p hh => (hp'.pin.1 id p hh).2, fun c m hh => (hp'.pin.2 c m hh).2⟩
    have hRy := s1 C' fn.ntmps e' a' w' hpins hR'
    obtain ⟨r1, r2⟩ := evRes_run hT hR' hv
    have hA : Agree (look σ) e e' := by
      refine ⟨fun id hid => (hRy.hp.pin.1 id (e.pl id) ?_).1, fun c hc => (hRy.hp.pin.2 c (e.nm c) ?_).1⟩
      · exact if_pos hid
      · exact if_pos hc
    have hfin : Hp C e' (look y.2) w' := by
      have q := hRy.hp
      refine ⟨q.new, q.cl, q.ar, q.oq, q.cp, q.inj, q.lt, q.mu, ⟨fun id p hh => ?_, fun c m hh => ?_⟩, q.fr⟩
      · obtain ⟨p1, p2⟩ := hp.pin.1 id p hh
        have := q.pin.1 id (e.pl id) (if_pos p2)
        exact ⟨this.1.trans p1, this.2⟩
      · obtain ⟨p1, p2⟩ := hp.pin.2 c m hh
        have := q.pin.2 c (e.nm c) (if_pos p2)
        exact ⟨this.1.trans p1, this.2⟩
    have hend : ∃ v', (results fn a'.tmps).run P w' = .ok v' w' ∧ ∃ e'', Agree (look σ) e e'' ∧ Hp C e'' (look y.2) w' ∧ Ending.returned v' = .returned (y.1.den e'') ∧ y.1.sc (look y.2) :=
      ⟨_, r1, e', hA, hfin, by rw [s2 e'], s3 r2⟩
    rcases hzo with ho | ho
    · rw [ho]
      exact ⟨hR'.df, hend⟩
    · rw [ho]
      exact ⟨hR'.df, hend⟩
  · exact h.elim
theorem evFn_ok {wf : List FuncId} {sp : FuncId → Option (List Sv → St → Tree FLeaf)} {fuel : Nat} (hT : TbOk P tb) (hm : P.follows .mixedOrders = true) (hs : SpOk P sp) : ∀ d, CallFOk P (evFn tb wf sp fuel d)
  | 0 => fun _ _ _ _ h => h.elim
  | d + 1 => by
    intro f args σ Φ h
    obtain ⟨y, h1, h2⟩ := h.at_
    refine ⟨y.1, y.2, h2, ?_⟩
    simp only [evFn] at h1
    split at h1
    · rename_i g hg; exact hs f g hg args σ y h1
    · split at h1
      · rename_i fn hfn
        exact evBody_ok hT hm (evFn_ok hT hm hs d) (hT.fn.at_ hfn).1 h1
      · exact h1.elim
theorem evFn_at {wf : List FuncId} {sp : FuncId → Option (List Sv → St → Tree FLeaf)} {fuel : Nat} (hT : TbOk P tb) (hm : P.follows .mixedOrders = true) (hs : SpOk P sp) {d f : Nat} {args : List Sv} {σ : St} {y : FLeaf} (h : (evFn tb wf sp fuel d f args σ).At y) : FunOk P f args σ y.1 y.2 := by
  obtain ⟨v, σ', h1, h2⟩ := evFn_ok hT hm hs d f args σ (· = y) h.eqAll
  obtain rfl := h1
  exact h2
end
end Sx
end Go.Proofs.YtpdhkgfdmpofiaaGreatDoor
