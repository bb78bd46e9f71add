/-
  One operation of a region, with its guard; a region.
-/
import Derived.Test.YtpdhkgfdmpofiaaGreatDoorSxr
set_option linter.unusedSimpArgs false
set_option linter.unusedVariables false
namespace Go.Proofs.YtpdhkgfdmpofiaaGreatDoor
namespace Sx
open Go.RowKit

section
variable {P : Program} {σ : St} {o : Oper} {tb : Tb}

theorem callEnd_ok {ids : List Nat} {wr : Bool} {g : FuncId} {ags : List Sv} {v : Sv} {σ' : St} {c : Call} {f : Operand} {vs : List Sv} {caps : List Pv} (hT : TbOk P tb) (hg : (alook tb.fn g).isSome = true)
    (ho : o.op = .call c) (hcl : c.callee = .value f) (hf : evO σ f = some (.one (.fn (.func g) caps))) (hvs : evs σ c.args.toList = some vs) (has : ags = vs ++ caps.map pvSv)
    (hkn : allKn σ.bk ids = true) (hin : ags.all (Sv.inB ids σ.nl) = true) (hin2 : (ids.all fun id => (gOf σ id).inB ids σ.nl) = true) (hfn : FunOk P g ags (sub σ ids (!wr)) v σ') : TreeOkW P σ o (callEnd σ ids wr v σ') := by
  unfold callEnd
  simp only []
  split
  · rename_i hb
    simp only [Bool.and_eq_true] at hb
    obtain ⟨b1, b2, b3, b4⟩ := hb
    intro Φ hΦ
    refine ⟨_, hΦ, ?_⟩
    intro C e s a w next Q hp hx hl hn
    simp only [List.mem_append] at hl
    have h1 : ∀ id ∈ ids, s (.k id) = look σ (.k id) := fun id hi => hl _ (Or.inl (mem_locs hi).1)
    have h2 : ∀ id ∈ ids, ∀ t ro cs cp off, alook σ.bk id = some (.ar t ro cs cp) → off < cs.length → s (.c id off) = look σ (.c id off) := fun id hi t ro cs cp off hb ho => hl _ (Or.inl ((mem_locs hi).2 t ro cs cp off hb ho))
    have h3 : ∀ c ∈ σ.nl, s (.n c) = look σ (.n c) := fun c hc => hl _ (Or.inr (Or.inr (Or.inr (List.mem_map.2 ⟨c, hc, rfl⟩))))
    have hsub := sub_hp (wr := wr) hp hkn (fun id hi => List.all_eq_true.1 hin2 id hi) h1 h2 h3
    have S : Sub (stoOf ids σ.nl) (look (sub σ ids (!wr))) := by
      refine ⟨fun id h => ?_, fun c h => ?_⟩
      · unfold kn at h ⊢
        rw [sub_k]
        simp only [stoOf] at h
        split at h
        · rename_i hm
          obtain ⟨b, hb⟩ := Option.isSome_iff_exists.1 (List.all_eq_true.1 hkn id (memb_iff.1 hm))
          rw [if_pos hm, hb]; rfl
        · cases h
      · unfold knn at h ⊢
        rw [sub_n]
        simp only [stoOf] at h
        simp only [look]
        split at h
        · rename_i hm; rw [if_pos hm]; rfl
        · cases h
    have hargs : ∀ x ∈ ags, x.sc (look (sub σ ids (!wr))) := fun x hxm => (Sv.inB_sc (List.all_eq_true.1 hin x hxm)).sub S
    have hops : ∀ x, (x = f ∨ x ∈ c.args.toList) → Sees σ s e a x := by
      intro x hxm
      refine hx x ?_
      rw [ho]
      simp only [Op.operands, Call.operands, hcl]
      rcases hxm with rfl | hxm
      · simp
      · simp; exact Or.inr (by simpa using hxm)
    have hcall := hfn.run _ e w hsub hargs
    have hfv : a.eval f = .func (.func g) #[] (caps.map (·.den e)).toArray := (hops f (Or.inl rfl) _ hf).1
    have hav : c.args.map a.eval = (vs.map (·.den e)).toArray := by
      have harr : ∀ A : Array Operand, A.map a.eval = (A.toList.map a.eval).toArray := fun ⟨l⟩ => by simp
      rw [harr, evs_ok hvs fun x hxm => hops x (Or.inr hxm)]
    obtain ⟨gf, hgf⟩ := Option.isSome_iff_exists.1 hg
    have hent := (hT.fn.at_ hgf).2
    have hrun : (execOp a.eval o).run P w = .ok (.enter g (ags.map (·.den e)).toArray) w := by
      unfold execOp
      simp only [ho]
      simp only [resolve, hcl, hfv, Deferred.ofValue, Sem.run_bind, Sem.run_pure, Result.andThen_ok, invoke, hav]
      rw [hent]
      congr 2
      rw [has]
      simp only [List.map_append, List.map_map]
      apply Array.ext'
      simp [Function.comp_def, pvSv_den]
    unfold Oper.wp
    rw [hrun]
    show Calls P g _ w _
    refine hcall.mono ?_
    rintro en w' ⟨e', hA, hp', rfl, hsc⟩
    have hkids : ∀ id ∈ fresh ids (reach σ'.bk 100000 (v.ids ++ (bif wr then rws σ.bk ids else []).flatMap fun id => (gOf σ' id).ids) []), s (.k id) = none := by
      intro id hi
      rw [hl _ (Or.inr (Or.inl (List.mem_map.2 ⟨id, hi, rfl⟩)))]
      have := List.all_eq_true.1 b1 id hi
      simp only [look]
      rw [show alook σ.bk id = none by simpa using this]
      rfl
    have hnms : ∀ c ∈ fresh σ.nl σ'.nl, s (.n c) = none := by
      intro c hc
      rw [hl _ (Or.inr (Or.inr (Or.inl (List.mem_map.2 ⟨c, hc, rfl⟩))))]
      simp only [look]
      rw [if_neg (by rw [(mem_fresh.1 hc).2]; decide)]
    obtain ⟨e'', r1, r2, r3, r4⟩ := callEnd_hp hp h1 hkids hkn hnms h3 (fun c hm => by
        by_cases hh : memb σ.nl c = true
        · exact Or.inr (memb_iff.1 hh)
        · exact Or.inl (mem_fresh.2 ⟨memb_iff.1 hm, by simpa using hh⟩)) (fun c hc => memb_iff.2 (mem_fresh.1 hc).1) b2 (fun id hi => by
        have := List.all_eq_true.1 b3 id hi
        exact Bool.and_eq_true_iff.1 this) b4 hA hp'
    exact hn e'' w' _ r1 r2 (fun v' hv' => by obtain rfl := Option.some.inj hv'; exact ⟨r3.symm, r4⟩) (fun hv' => by cases hv')
  · exact fun Φ hΦ => hΦ.elim
theorem callS_ok {wf : List FuncId} {call : CallF} (hT : TbOk P tb) (hc : CallFOk P call) {c : Call} {f : Operand} (ho : o.op = .call c) (hcl : c.callee = .value f) : TreeOkW P σ o (callS tb wf call σ f c.args.toList) := by
  unfold callS
  split
  · rename_i g caps vs hf hvs
    simp only []
    split
    · rename_i hb
      simp only [Bool.and_eq_true] at hb
      obtain ⟨⟨b0, b1⟩, b2, b3⟩ := hb
      intro Φ hΦ
      rw [Tree.All_bind] at hΦ
      obtain ⟨v, σ', h1, h2⟩ := hc _ _ _ _ hΦ
      unfold slimT at h1
      rw [Tree.All_bind] at h1
      have hE : ∃ E, Φ (slimE (unW σ'.lg) σ E) ∧ OpOkW P σ o E ∧ ∀ id b, Wr.new id b ∈ E.ws → b = gOf σ' id ∧ ((∃ x, alook σ.bk id = some x) → memb (reach σ.bk 100000 ((vs ++ caps.map pvSv).flatMap Sv.ids) []) id = true) := by
        have hh := callEnd_ok hT b0 ho hcl hf hvs rfl b1 b2 b3 h2
        unfold callEnd at h1 hh
        simp only [] at h1 hh
        split at h1
        · rename_i hcond
          obtain ⟨E, hE1, hE2⟩ := hh (fun E => E = _) (by rw [hcond]; rfl)
          subst hE1
          refine ⟨_, h1, hE2, fun id b hm => ?_⟩
          rcases List.mem_append.1 hm with hm | hm
          · obtain ⟨_, _, hx⟩ := List.mem_map.1 hm; cases hx
          · obtain ⟨i, hi, hx⟩ := List.mem_map.1 hm
            cases hx
            refine ⟨rfl, fun ⟨x, hx⟩ => ?_⟩
            rcases List.mem_append.1 hi with hi | hi
            · cases hwr : memb wf g with
              | true => rw [hwr] at hi; exact memb_iff.2 (mem_rws.1 hi).1
              | false => rw [hwr] at hi; cases hi
            · exfalso
              have := List.all_eq_true.1 (Bool.and_eq_true_iff.1 hcond).1 _ hi
              rw [hx] at this; cases this
        · exact h1.elim
      obtain ⟨E, hE1, hE2, hE3⟩ := hE
      refine ⟨_, hE1, hE2.slim fun id b hm hS j hj => ?_⟩
      obtain ⟨rfl, hin⟩ := hE3 id b hm
      have hmem := hin (sameS_kn hS)
      have hkn : kn (look (sub σ (reach σ.bk 100000 ((vs ++ caps.map pvSv).flatMap Sv.ids) []) (!memb wf g))) id := by
        obtain ⟨x, hx⟩ := sameS_kn hS
        unfold kn
        rw [sub_k, if_pos hmem, hx]; rfl
      have := h2.keep id j hkn hj
      rw [sub_c, if_pos hmem] at this
      rw [← this, look_c_gOf]
    · exact fun Φ hΦ => hΦ.elim
  · exact fun Φ hΦ => hΦ.elim
def opF (tb : Tb) (wf : List FuncId) (call : CallF) (σ : St) (kn : Kn) (o : Oper) : Tree OpE := match o.op with
  | .call { callee := .value f, args := args, argTypes := _ } => callS tb wf call σ f args.toList
  | _ => opS tb σ kn o
theorem opF_ok {wf : List FuncId} {call : CallF} (hT : TbOk P tb) (hc : CallFOk P call) {kn : Kn} (hk : KnOk σ kn) : TreeOkW P σ o (opF tb wf call σ kn o) := by
  unfold opF
  split
  · rename_i f args ts ho
    exact callS_ok hT hc ho rfl
  · exact (opS_ok hT hk).toW

/-! one operation of a region -/
structure One where
  σ : St
  kn : Kn
  locs : List Loc
  ws : List Wr
def tmpOf : Operand → List Nat
  | .tmp t => [t]
  | _ => []
def tmpsOf (o : Oper) : List Loc := (o.op.operands.toList.flatMap tmpOf).map Loc.t
def noTm : Wr → Bool
  | .tm _ _ => false
  | .ft _ => false
  | _ => true
def dstWr (N : Nat) : Option Tmp → Option Sv → Option (List Wr)
  | none, _ => some []
  | some d, v => match Nat.blt d N with
    | true => some [.tm d (v.getD (.tup []))]
    | false => none
def dstKn (kn : Kn) : Option Tmp → Kn
  | none => kn
  | some d => adel kn d
def finish (N : Nat) (σ : St) (kn : Kn) (dst : Option Tmp) (pre : List Loc) (E : OpE) : Tree One := fE E fun E => match dstWr N dst E.val, E.ws.all noTm with
  | some dw, true => fL fId (E.ws ++ dw) fun ws => fL fLoc (pre ++ E.rl) fun ls => fapps ws σ fun o => match o with
    | some σ' => .leaf ⟨σ', dstKn kn dst, ls, ws⟩
    | none => .fail
  | _, _ => .fail
theorem finish_eq {N : Nat} {σ : St} {kn : Kn} {dst : Option Tmp} {pre : List Loc} {E : OpE} : finish N σ kn dst pre E = match dstWr N dst E.val, E.ws.all noTm with
    | some dw, true => match σ.apps (E.ws ++ dw) with
      | some σ' => .leaf ⟨σ', dstKn kn dst, pre ++ E.rl, E.ws ++ dw⟩
      | none => .fail
    | _, _ => .fail := by
  simp only [finish, fE_eq, fL_fId, fL_fLoc, fapps_eq]
/-- The part of operation i of a region. -/
def PartOk (P : Program) (ops : Array Oper) (N : Nat) (σ : St) (i : Nat) (x : One) : Prop :=
  ∀ (C : Ctx) (Q : Exit → Act → World → Prop) (s : Sto) (a : Act) (w : World) (K : Act → World → Prop), (∃ e, Rel C N e s a w) → (∀ l ∈ x.locs, s l = look σ l) → (∀ a' w', (∃ e, Rel C N e (upds s x.ws) a' w') → K a' w') → wpOp P ops Q i K a w
def skipE : OpE := ⟨none, [], []⟩
def evOp (tb : Tb) (wf : List FuncId) (call : CallF) (N : Nat) (ops : Array Oper) (σ : St) (kn : Kn) (o : Oper) : Tree One :=
  let yes := fun (pre : List Loc) (kn : Kn) => (opF tb wf call σ kn o).bind (finish N σ kn o.dst (pre ++ tmpsOf o))
  match o.guard with
  | none => yes [] kn
  | some (j, want) => match (ops[j]?).bind (·.dst) with
    | none => .fail
    | some t => match alook σ.tm t with
      | some (.one (.b v l)) =>
        let no := fun (kn : Kn) => finish N σ kn o.dst [.t t] skipE
        match alook kn t with
        | some d => match d == want with
          | true => yes [.t t] kn
          | false => no kn
        | none => match l with
          | true => match v == want with
            | true => yes [.t t] kn
            | false => no kn
          | false => match want with
            | true => .br v (yes [.t t] ((t, true) :: kn)) (no ((t, false) :: kn))
            | false => .br v (no ((t, true) :: kn)) (yes [.t t] ((t, false) :: kn))
      | some (.tup []) => finish N σ kn o.dst [.t t] skipE
      | _ => .fail
theorem Sub.upds {s : Sto} {ws : List Wr} : Sub s (upds s ws) := by
  induction ws generalizing s with
  | nil => exact Sub.refl _
  | cons x ws ih =>
    refine Sub.trans (b := x.upd s) ?_ ih
    cases x with
    | tm n v => exact Sub.tm
    | ft n => exact ⟨fun _ h => h, fun _ h => h⟩
    | cell id off v => exact Sub.cell
    | new id b => exact Sub.new
    | nm c => exact Sub.nm
theorem upds_t {s : Sto} {ws : List Wr} (h : ws.all noTm = true) (t : Nat) : upds s ws (.t t) = s (.t t) := by
  induction ws generalizing s with
  | nil => rfl
  | cons x ws ih =>
    simp only [List.all_cons, Bool.and_eq_true] at h
    show upds (x.upd s) ws (.t t) = _
    rw [ih h.2]
    cases x with
    | tm n v => cases h.1
    | ft n => cases h.1
    | _ => rfl
theorem apps_tm {ws : List Wr} (h : ws.all noTm = true) : ∀ {σ σ' : St}, σ.apps ws = some σ' → σ'.tm = σ.tm := by
  induction ws with
  | nil => intro σ σ' h2; obtain rfl := Option.some.inj h2; rfl
  | cons x ws ih =>
    intro σ σ' h2
    simp only [List.all_cons, Bool.and_eq_true] at h
    simp only [St.apps] at h2
    split at h2
    · rw [ih h.2 h2]
      cases x with
      | tm n v => cases h.1
      | ft n => cases h.1
      | _ => rfl
    · cases h2
theorem apps_append {ws ws' : List Wr} : ∀ {σ : St}, σ.apps (ws ++ ws') = (σ.apps ws).bind fun σ' => σ'.apps ws' := by
  induction ws with
  | nil => intro σ; rfl
  | cons x ws ih =>
    intro σ
    simp only [List.cons_append, St.apps]
    split
    · exact ih
    · rfl
theorem KnOk.del {kn : Kn} {σ' : St} {t : Nat} {v : Sv} {tm : List (Nat × Sv)} (h : KnOk σ kn) (h1 : tm = σ.tm) (h2 : σ'.tm = (t, v) :: tm) : KnOk σ' (adel kn t) := by
  intro u d hu
  rw [alook_adel] at hu
  split at hu
  · cases hu
  · rename_i hne
    obtain ⟨x, l, hx, rfl⟩ := h u d hu
    refine ⟨x, l, ?_, rfl⟩
    rw [h2, h1]
    simp only [alook]
    rw [beq_ff.2 (Ne.symm hne)]
    exact hx
theorem dst_kn {kn : Kn} {σ' : St} {N : Nat} {dst : Option Tmp} {val : Option Sv} {ws dw : List Wr} (h : KnOk σ kn) (hn : ws.all noTm = true) (hd : dstWr N dst val = some dw) (ha : σ.apps (ws ++ dw) = some σ') : KnOk σ' (dstKn kn dst) := by
  rw [apps_append] at ha
  obtain ⟨σ1, h1, h2⟩ := Option.bind_eq_some_iff.1 ha
  have ht := apps_tm hn h1
  cases dst with
  | none =>
    obtain rfl := Option.some.inj (show some [] = some dw from hd)
    obtain rfl := Option.some.inj (show some σ1 = some σ' from h2)
    intro u d hu
    obtain ⟨x, l, hx, rfl⟩ := h u d hu
    exact ⟨x, l, by rw [ht]; exact hx, rfl⟩
  | some t =>
    simp only [dstWr] at hd
    split at hd
    · obtain rfl := Option.some.inj hd
      obtain rfl : σ1.app (.tm t (val.getD (.tup []))) = σ' := by simpa [St.apps, okW] using h2
      exact h.del ht rfl
    · cases hd
/-- What stands in the frame behind an operation. -/
theorem dst_rel {C : Ctx} {N : Nat} {e : Env} {s : Sto} {a : Act} {w : World} {dst : Option Tmp} {val : Option Sv} {dw : List Wr} {x : Value} (h : Rel C N e s a w) (hd : dstWr N dst val = some dw) (hx : ∀ v, val = some v → x = v.den e ∧ v.sc s) (hu : val = none → x = undef) : Rel C N e (upds s dw) (a.put dst x) w := by
  cases dst with
  | none =>
    obtain rfl := Option.some.inj (show some [] = some dw from hd)
    exact h
  | some t =>
    simp only [dstWr] at hd
    split at hd
    · rename_i hlt
      obtain rfl := Option.some.inj hd
      have hlt' := blt_iff.1 hlt
      cases val with
      | some v =>
        obtain ⟨rfl, hs⟩ := hx v rfl
        exact h.put hlt' hs
      | none =>
        obtain rfl := hu rfl
        exact h.put (v := .tup []) hlt' (fun p hp => by cases hp)
    · cases hd
/-- What a leaf of evOp is. -/
structure OneOk (P : Program) (ops : Array Oper) (N : Nat) (σ : St) (i : Nat) (x : One) : Prop where
  app : σ.apps x.ws = some x.σ
  kn : KnOk x.σ x.kn
  part : PartOk P ops N σ i x
theorem finish_yes {kn : Kn} {N i : Nat} {ops : Array Oper} {pre : List Loc} {E : OpE} (hi : ops[i]? = some o) (hk : KnOk σ kn) (hE : OpOkW P σ o E) (htm : ∀ l ∈ tmpsOf o, l ∈ pre)
    (hw : ∀ (C : Ctx) (e : Env) (s : Sto) (a : Act) (w : World), Rel C N e s a w → (∀ l ∈ pre, s l = look σ l) → Region.wanted o (yielded ops a.tmps) = true) {Φ : One → Prop} (h : (finish N σ kn o.dst pre E).All Φ) : ∃ x, Φ x ∧ OneOk P ops N σ i x := by
  rw [finish_eq] at h
  split at h
  · rename_i dw hd hn
    split at h
    · rename_i σ' ha
      refine ⟨_, h, ha, dst_kn hk hn hd ha, ?_⟩
      rintro C Q s a w K ⟨e, hR⟩ hl hK
      unfold wpOp
      rw [hi]
      simp only []
      have hlp : ∀ l ∈ pre, s l = look σ l := fun l hm => hl l (List.mem_append_left _ hm)
      rw [if_pos (hw C e s a w hR hlp)]
      refine Or.inl (hE C e s a w K Q hR.hp (fun x hx => sees_of hR fun t ht => ?_) (fun l hm => hl l (List.mem_append_right _ hm)) ?_)
      · subst ht
        refine hlp _ (htm _ ?_)
        unfold tmpsOf
        exact List.mem_map.2 ⟨t, List.mem_flatMap.2 ⟨.tmp t, by simpa using hx, by simp [tmpOf]⟩, rfl⟩
      · intro e' w' x hA hp' hx hu
        refine hK _ _ ⟨e', ?_⟩
        rw [upds_append]
        exact dst_rel (hR.agree (fun t => upds_t hn t) Sub.upds hA hp') hd hx hu
    · exact h.elim
  · exact h.elim
theorem finish_no {kn : Kn} {N i : Nat} {ops : Array Oper} {pre : List Loc} (hi : ops[i]? = some o) (hk : KnOk σ kn)
    (hw : ∀ (C : Ctx) (e : Env) (s : Sto) (a : Act) (w : World), Rel C N e s a w → (∀ l ∈ pre, s l = look σ l) → Region.wanted o (yielded ops a.tmps) = false) {Φ : One → Prop} (h : (finish N σ kn o.dst pre skipE).All Φ) : ∃ x, Φ x ∧ OneOk P ops N σ i x := by
  rw [finish_eq] at h
  split at h
  · rename_i dw hd hn
    split at h
    · rename_i σ' ha
      refine ⟨_, h, ha, dst_kn hk hn hd ha, ?_⟩
      rintro C Q s a w K ⟨e, hR⟩ hl hK
      unfold wpOp
      rw [hi]
      simp only []
      have hlp : ∀ l ∈ pre, s l = look σ l := fun l hm => hl l (List.mem_append_left _ hm)
      rw [if_neg (by rw [hw C e s a w hR hlp]; decide)]
      refine hK _ _ ⟨e, ?_⟩
      exact dst_rel hR hd (fun v hv => by cases hv) (fun _ => rfl)
    · exact h.elim
  · exact h.elim
theorem wanted_of {C : Ctx} {N j : Nat} {e : Env} {s : Sto} {a : Act} {w : World} {ops : Array Oper} {want v l : Bool} {t : Nat} (hg : o.guard = some (j, want)) (hj : (ops[j]?).bind (·.dst) = some t) (hv : alook σ.tm t = some (.one (.b v l))) (hR : Rel C N e s a w) (hs : s (.t t) = look σ (.t t)) : Region.wanted o (yielded ops a.tmps) = (v == want) := by
  have h1 : s (.t t) = some (.sv (.one (.b v l))) := by rw [hs]; simp only [look, hv]; rfl
  obtain ⟨h2, h3, _⟩ := hR.tm t _ h1
  have h4 : a.tmps[t]? = some (.bool v) := by
    have hlt : t < a.tmps.size := by rw [hR.sz]; exact h2
    rw [Array.getElem?_eq_getElem hlt]
    rw [Array.getD_eq_getD_getElem?, Array.getElem?_eq_getElem hlt] at h3
    exact congrArg some h3
  unfold Region.wanted yielded
  rw [hg]
  simp only [hj, Option.bind_some, h4]
  cases v <;> cases want <;> rfl
/-- A test that was itself passed over: what hangs on it is passed over too. -/
theorem wanted_un {C : Ctx} {N j : Nat} {e : Env} {s : Sto} {a : Act} {w : World} {ops : Array Oper} {want : Bool} {t : Nat} (hg : o.guard = some (j, want)) (hj : (ops[j]?).bind (·.dst) = some t) (hv : alook σ.tm t = some (.tup [])) (hR : Rel C N e s a w) (hs : s (.t t) = look σ (.t t)) : Region.wanted o (yielded ops a.tmps) = false := by
  have h1 : s (.t t) = some (.sv (.tup [])) := by rw [hs]; simp only [look, hv]; rfl
  obtain ⟨h2, h3, _⟩ := hR.tm t _ h1
  have h4 : a.tmps[t]? = some (.tuple #[]) := by
    have hlt : t < a.tmps.size := by rw [hR.sz]; exact h2
    rw [Array.getElem?_eq_getElem hlt]
    rw [Array.getD_eq_getD_getElem?, Array.getElem?_eq_getElem hlt] at h3
    exact congrArg some h3
  unfold Region.wanted yielded
  rw [hg]
  simp only [hj, Option.bind_some, h4]
  cases want <;> rfl
theorem evOp_ok {wf : List FuncId} {call : CallF} (hT : TbOk P tb) (hc : CallFOk P call) {N i : Nat} {ops : Array Oper} {kn : Kn} (hi : ops[i]? = some o) (hk : KnOk σ kn) {Φ : One → Prop} (h : (evOp tb wf call N ops σ kn o).All Φ) : ∃ x, Φ x ∧ OneOk P ops N σ i x := by
  have yes : ∀ {pre : List Loc} {kn : Kn}, KnOk σ kn → (∀ (C : Ctx) (e : Env) (s : Sto) (a : Act) (w : World), Rel C N e s a w → (∀ l ∈ pre, s l = look σ l) → Region.wanted o (yielded ops a.tmps) = true) →
      ((opF tb wf call σ kn o).bind (finish N σ kn o.dst (pre ++ tmpsOf o))).All Φ → ∃ x, Φ x ∧ OneOk P ops N σ i x := by
    intro pre kn hk hw h
    rw [Tree.All_bind] at h
    obtain ⟨E, h1, h2⟩ := opF_ok hT hc hk _ h
    exact finish_yes hi hk h2 (fun l hl => List.mem_append_right _ hl) (fun C e s a w hR hl => hw C e s a w hR fun l hm => hl l (List.mem_append_left _ hm)) h1
  unfold evOp at h
  simp only [] at h
  split at h
  · rename_i hg
    exact yes (pre := []) hk (fun C e s a w _ _ => by simp [Region.wanted, hg]) h
  · rename_i j want hg
    split at h
    · exact h.elim
    · rename_i t hj
      split at h
      · rename_i v l hv
        have hw : ∀ (C : Ctx) (e : Env) (s : Sto) (a : Act) (w : World), Rel C N e s a w → (∀ l ∈ [Loc.t t], s l = look σ l) → Region.wanted o (yielded ops a.tmps) = (v == want) := fun C e s a w hR hl => wanted_of hg hj hv hR (hl _ (by simp))
        have yes' : ∀ {kn : Kn}, KnOk σ kn → (v == want) = true → ((opF tb wf call σ kn o).bind (finish N σ kn o.dst ([Loc.t t] ++ tmpsOf o))).All Φ → ∃ x, Φ x ∧ OneOk P ops N σ i x := fun hk hvw h => yes hk (fun C e s a w hR hl => (hw C e s a w hR hl).trans hvw) h
        have no' : ∀ {kn : Kn}, KnOk σ kn → (v == want) = false → (finish N σ kn o.dst [Loc.t t] skipE).All Φ → ∃ x, Φ x ∧ OneOk P ops N σ i x := fun hk hvw h => finish_no hi hk (fun C e s a w hR hl => (hw C e s a w hR hl).trans hvw) h
        have hk2 : ∀ d, v = d → KnOk σ ((t, d) :: kn) := by
          intro d hvd u d' hu
          simp only [alook] at hu
          cases hb : Nat.beq t u with
          | true =>
            rw [hb] at hu
            obtain rfl := beq_iff'.1 hb
            obtain rfl := Option.some.inj hu
            exact ⟨v, l, hv, hvd⟩
          | false => rw [hb] at hu; exact hk u d' hu
        split at h
        · rename_i d hd
          obtain ⟨v', l', hv', rfl⟩ := hk t d hd
          obtain ⟨rfl, rfl⟩ : v' = v ∧ l' = l := by rw [hv] at hv'; simpa [eq_comm] using hv'
          split at h
          · rename_i hb; exact yes' hk hb h
          · rename_i hb; exact no' hk hb h
        · split at h
          · split at h
            · rename_i hb; exact yes' hk hb h
            · rename_i hb; exact no' hk hb h
          · split at h
            · cases hvv : v with
              | true => rw [hvv] at hk2 yes'; exact yes' (hk2 true rfl) rfl (h.1 hvv)
              | false => rw [hvv] at hk2 no'; exact no' (hk2 false rfl) rfl (h.2 hvv)
            · cases hvv : v with
              | true => rw [hvv] at hk2 no'; exact no' (hk2 true rfl) rfl (h.1 hvv)
              | false => rw [hvv] at hk2 yes'; exact yes' (hk2 false rfl) rfl (h.2 hvv)
      · rename_i hv
        exact finish_no hi hk (fun C e s a w hR hl => wanted_un hg hj hv hR (hl _ (by simp))) h
      · exact h.elim
end
end Sx
end Go.Proofs.YtpdhkgfdmpofiaaGreatDoor
