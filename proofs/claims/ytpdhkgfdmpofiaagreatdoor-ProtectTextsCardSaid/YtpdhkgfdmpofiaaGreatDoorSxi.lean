/-
  A call of a function: what it leaves of the caller's blocks.
-/
import Derived.Test.YtpdhkgfdmpofiaaGreatDoorSxh
set_option linter.unusedSimpArgs false
set_option linter.unusedVariables false
namespace Go.Proofs.YtpdhkgfdmpofiaaGreatDoor
namespace Sx
open Go.RowKit

section
variable {P : Program} {σ σ' : St} {o : Oper} {tb : Tb}

theorem upds_append (s : Sto) (a b : List Wr) : upds s (a ++ b) = upds (upds s a) b := by unfold upds; rw [List.foldl_append]
theorem upds_nms (s : Sto) (l : List Nat) : (∀ c, upds s (l.map Wr.nm) (.n c) = if c ∈ l then some .nm else s (.n c)) ∧ (∀ x, (∀ c, x ≠ .n c) → upds s (l.map Wr.nm) x = s x) := by
  induction l generalizing s with
  | nil => exact ⟨fun c => by simp [upds], fun _ _ => rfl⟩
  | cons d l ih =>
    obtain ⟨i1, i2⟩ := ih ((Wr.nm d).upd s)
    refine ⟨fun c => ?_, fun x hx => ?_⟩
    · show upds ((Wr.nm d).upd s) (l.map Wr.nm) (.n c) = _
      rw [i1]
      by_cases h : c ∈ l
      · simp [h]
      · rw [if_neg h]
        simp only [Wr.upd, Wr.fn]
        by_cases e : c = d
        · subst e; simp
        · simp [e, h]
    · show upds ((Wr.nm d).upd s) (l.map Wr.nm) x = _
      rw [i2 x hx]
      cases x with
      | n c => exact absurd rfl (hx c)
      | _ => rfl
theorem upds_news (g : Nat → Blk) (s : Sto) (l : List Nat) : (∀ i, upds s (l.map fun id => .new id (g id)) (.k i) = if i ∈ l then some (.bk (g i).info) else s (.k i)) ∧
    (∀ i o, upds s (l.map fun id => .new id (g id)) (.c i o) = if i ∈ l then ((g i).cell o).map .cv else s (.c i o)) ∧ (∀ c, upds s (l.map fun id => .new id (g id)) (.n c) = s (.n c)) ∧ ∀ t, upds s (l.map fun id => .new id (g id)) (.t t) = s (.t t) := by
  induction l generalizing s with
  | nil => exact ⟨fun i => by simp [upds], fun i o => by simp [upds], fun _ => rfl, fun _ => rfl⟩
  | cons d l ih =>
    obtain ⟨i1, i2, i3, i4⟩ := ih ((Wr.new d (g d)).upd s)
    refine ⟨fun i => ?_, fun i o => ?_, fun c => (i3 c).trans rfl, fun t => (i4 t).trans rfl⟩
    · show upds ((Wr.new d (g d)).upd s) (l.map fun id => .new id (g id)) (.k i) = _
      rw [i1, new_k]
      by_cases h : i ∈ l
      · simp [h]
      · rw [if_neg h]
        by_cases e : i = d
        · subst e; simp
        · simp [e, h]
    · show upds ((Wr.new d (g d)).upd s) (l.map fun id => .new id (g id)) (.c i o) = _
      rw [i2, new_c]
      by_cases h : i ∈ l
      · simp [h]
      · rw [if_neg h]
        by_cases e : i = d
        · subst e; simp
        · simp [e, h]
theorem gOf_info {id : Nat} {b : BI} (h : look σ' (.k id) = some (.bk b)) : (gOf σ' id).info = b := by
  simp only [look] at h
  unfold gOf
  cases hb : alook σ'.bk id with
  | none => rw [hb] at h; cases h
  | some x => rw [hb] at h; simpa using h
theorem look_of_gOf {id : Nat} (h : (gOf σ' id).info ≠ .gone) : look σ' (.k id) = some (.bk (gOf σ' id).info) := by
  unfold gOf at h ⊢
  simp only [look]
  cases hb : alook σ'.bk id with
  | none => rw [hb] at h; exact absurd rfl h
  | some x => rfl
theorem look_c_gOf (id off : Nat) : look σ' (.c id off) = ((gOf σ' id).cell off).map .cv := by
  unfold gOf
  simp only [look]
  cases hb : alook σ'.bk id with
  | none => rfl
  | some x => rfl
theorem gOf_inB {K N : List Nat} {id off : Nat} {v : Cv} (h : (gOf σ' id).inB K N = true) (hc : (gOf σ' id).cell off = some v) : v.inB K N = true := by
  cases hb : gOf σ' id with
  | ar t ro cs cp =>
    rw [hb] at h hc
    exact List.all_eq_true.1 (Bool.and_eq_true_iff.1 h).1 v (List.mem_of_getElem? hc)
  | oq t ro n f cp => rw [hb] at hc; cases hc
  | gone => rw [hb] at hc; cases hc
theorem setRo_info (ro : Bool) (b : Blk) : (b.setRo ro).info = match b.info with
    | .ar t r n cp => .ar t (ro || r) n cp
    | .oq t r n f cp => .oq t (ro || r) n f cp
    | .gone => .gone := by cases b <;> rfl
theorem setRo_cell (ro : Bool) (b : Blk) (o : Nat) : (b.setRo ro).cell o = b.cell o := by cases b <;> rfl
theorem mem_locs {bk : List (Nat × Blk)} {ids : List Nat} {id : Nat} (h : id ∈ ids) : Loc.k id ∈ ids.flatMap (locsOf bk) ∧ ∀ t ro cs cp off, alook bk id = some (.ar t ro cs cp) → off < cs.length → Loc.c id off ∈ ids.flatMap (locsOf bk) := by
  refine ⟨List.mem_flatMap.2 ⟨id, h, ?_⟩, fun t ro cs cp off hb ho => List.mem_flatMap.2 ⟨id, h, ?_⟩⟩
  · unfold locsOf
    split
    · rename_i b _; cases b <;> simp [blkLocs]
    · simp
  · unfold locsOf
    rw [hb]
    exact List.mem_cons_of_mem _ (mem_cellLocs (by omega) (by omega))


/-- What a callee may write: new blocks, and those that are handed to it. -/
def callCtx (e : Env) (s : Sto) (w : World) (ids : List Nat) (wr : Bool) : Ctx where
  M := fun b => w.heap.size ≤ b ∨ (wr = true ∧ ∃ id ∈ ids, ∃ b0, s (.k id) = some (.bk b0) ∧ b0.rw = true ∧ b = (e.pl id).1)
  pin := fun id => if memb ids id = true then some (e.pl id) else none
  pinn := fun _ => none
  w0 := w
theorem sub_k (ids : List Nat) (ro : Bool) (id : Nat) : look (sub σ ids ro) (.k id) = if memb ids id = true then (alook σ.bk id).map (fun b => .bk (b.setRo ro).info) else none := by
  simp only [look, sub, alook_restr]
  split
  · cases alook σ.bk id <;> rfl
  · rfl
theorem sub_c (ids : List Nat) (ro : Bool) (id o : Nat) : look (sub σ ids ro) (.c id o) = if memb ids id = true then look σ (.c id o) else none := by
  simp only [look, sub, alook_restr]
  split
  · cases alook σ.bk id with
    | none => rfl
    | some b => simp [setRo_cell]
  · rfl
theorem sub_n (ids : List Nat) (ro : Bool) (c : Nat) : look (sub σ ids ro) (.n c) = look σ (.n c) := rfl
theorem rw_live {b : BI} (h : b.rw = true) : b.live = true := by cases b <;> first | rfl | cases h
theorem setRo_rw {ro : Bool} {b : Blk} (h : (b.setRo ro).info.rw = true) : b.info.rw = true ∧ ro = false := by
  cases b with
  | ar t r cs cp => simp only [Blk.setRo, Blk.info, BI.rw, Bool.not_eq_true', Bool.or_eq_false_iff] at h ⊢; exact ⟨h.2, h.1⟩
  | oq t r n f cp => simp only [Blk.setRo, Blk.info, BI.rw, Bool.not_eq_true', Bool.or_eq_false_iff] at h ⊢; exact ⟨h.2, h.1⟩
  | gone => cases h
theorem setRo_live {ro : Bool} {b : Blk} : (b.setRo ro).info.live = b.info.live := by cases b <;> rfl
theorem setRo_cp {ro : Bool} {b : Blk} : (b.setRo ro).info.cp = b.info.cp ∧ (b.setRo ro).info.t = b.info.t ∧ (b.setRo ro).info.n = b.info.n := by cases b <;> exact ⟨rfl, rfl, rfl⟩
/-- The state that the callee sees, at the call. -/
theorem sub_hp {C : Ctx} {e : Env} {s : Sto} {w : World} (hp : Hp C e s w) {ids : List Nat} {wr : Bool} (hkn : allKn σ.bk ids = true) (hin : ∀ id ∈ ids, (gOf σ id).inB ids σ.nl = true)
    (hk : ∀ id ∈ ids, s (.k id) = look σ (.k id)) (hcl : ∀ id ∈ ids, ∀ t ro cs cp off, alook σ.bk id = some (.ar t ro cs cp) → off < cs.length → s (.c id off) = look σ (.c id off)) (_hn : ∀ c ∈ σ.nl, s (.n c) = look σ (.n c)) :
    Hp (callCtx e s w ids wr) e (look (sub σ ids (!wr))) w := by
  have hkn' : ∀ id ∈ ids, ∃ b, alook σ.bk id = some b := fun id hi => Option.isSome_iff_exists.1 (List.all_eq_true.1 hkn id hi)
  have S : Sub (stoOf ids σ.nl) (look (sub σ ids (!wr))) := by
    refine ⟨fun id h => ?_, fun c h => ?_⟩
    · unfold kn at h ⊢
      rw [sub_k]
      simp only [stoOf] at h
      split at h
      · rename_i hm
        obtain ⟨b, hb⟩ := hkn' id (memb_iff.1 hm)
        rw [if_pos hm, hb]; rfl
      · cases h
    · unfold knn at h ⊢
      rw [sub_n]
      simp only [stoOf] at h
      simp only [look]
      split at h
      · rename_i hm; rw [if_pos hm]; rfl
      · cases h
  -- what the sub-state says of a block, the caller's store says too
  have up : ∀ id b, look (sub σ ids (!wr)) (.k id) = some (.bk b) → id ∈ ids ∧ ∃ b0, alook σ.bk id = some b0 ∧ b = (b0.setRo (!wr)).info ∧ s (.k id) = some (.bk b0.info) := by
    intro id b h
    rw [sub_k] at h
    split at h
    · rename_i hm
      have hi := memb_iff.1 hm
      obtain ⟨b0, hb⟩ := hkn' id hi
      rw [hb] at h
      refine ⟨hi, b0, hb, by simpa using h.symm, ?_⟩
      rw [hk id hi]
      simp only [look, hb]
      rfl
    · cases h
  refine ⟨fun k hk => Or.inl hk, ?_, ?_, ?_, ?_, ?_, ?_, ?_, ?_, ⟨rfl, rfl, rfl, Nat.le_refl _, fun _ _ _ => rfl, hp.fr.glob fun k hk hm => by
    rcases hm with hm | ⟨_, id, _, b0, hb0, hr, rfl⟩
    · have := hp.fr.size; omega
    · exact hp.mu id b0 hb0 hr⟩⟩
  · intro id off v hv
    rw [sub_c] at hv
    split at hv
    · rename_i hm
      have hi := memb_iff.1 hm
      obtain ⟨b0, hb⟩ := hkn' id hi
      have hv' := hv
      simp only [look, hb, Option.bind_some] at hv'
      cases b0 with
      | ar t ro cs cp =>
        simp only [Blk.cell, Option.map_eq_some_iff, LV.cv.injEq] at hv'
        obtain ⟨c, hc, rfl⟩ := hv'
        have hlt := (List.getElem?_eq_some_iff.1 hc).1
        have h1 := hcl id hi t ro cs cp off hb hlt
        obtain ⟨h2, h3, h4⟩ := hp.cl id off c (h1.trans hv)
        have hg : gOf σ id = .ar t ro cs cp := by unfold gOf; rw [hb]
        refine ⟨(Cv.inB_sc (gOf_inB (σ' := σ) (hin id hi) (by rw [hg]; exact hc))).sub S, ⟨t, !wr || ro, cs.length, cp, ?_, hlt⟩, h4⟩
        rw [sub_k, if_pos hm, hb]
        rfl
      | oq t ro n f cp => cases hv'
      | gone => cases hv'
    · cases hv
  · intro id t n cp h off ho
    obtain ⟨hi, b0, hb, he, hs⟩ := up id _ h
    cases b0 with
    | ar t' ro cs cp' =>
      simp only [Blk.setRo, Blk.info, BI.ar.injEq] at he
      obtain ⟨rfl, hr, rfl, rfl⟩ := he
      obtain ⟨_, rfl⟩ := Bool.or_eq_false_iff.1 hr.symm
      exact hp.ar id _ _ _ hs off ho
    | oq t' ro n' f cp' => simp [Blk.setRo, Blk.info] at he
    | gone => simp [Blk.setRo, Blk.info] at he
  · intro id t ro n f cp h off ho
    obtain ⟨hi, b0, hb, he, hs⟩ := up id _ h
    cases b0 with
    | oq t' r n' f' cp' =>
      simp only [Blk.setRo, Blk.info, BI.oq.injEq] at he
      obtain ⟨rfl, hr, rfl, rfl, rfl⟩ := he
      obtain ⟨h1, h2⟩ := hp.oq id _ _ _ _ _ hs off ho
      refine ⟨h1, fun hro => ?_⟩
      rw [hro] at hr
      obtain ⟨_, rfl⟩ := Bool.or_eq_false_iff.1 hr.symm
      exact h2 rfl
    | ar t' ro cs cp' => simp [Blk.setRo, Blk.info] at he
    | gone => simp [Blk.setRo, Blk.info] at he
  · intro id b c es h hcp
    obtain ⟨hi, b0, hb, rfl, hs⟩ := up id _ h
    obtain ⟨e1, e2, e3⟩ := @setRo_cp (!wr) b0
    rw [e1] at hcp
    rw [e2, e3]
    obtain ⟨h1, h2⟩ := hp.cp id b0.info c es hs hcp
    refine ⟨?_, h2⟩
    unfold knn
    rw [sub_n]
    -- the capacity's name is one of the state's
    have hin' := hin id hi
    unfold gOf at hin'
    rw [hb] at hin'
    have hm : memb σ.nl c = true := by
      cases b0 with
      | ar t ro cs cp => obtain rfl : cp = some (c, es) := hcp; exact (Bool.and_eq_true_iff.1 hin').2
      | oq t ro n f cp => obtain rfl : cp = some (c, es) := hcp; exact hin'
      | gone => cases hcp
    simp only [look, if_pos hm]; rfl
  · intro id id' b b' h1 h2 h3 h4 hne
    obtain ⟨_, b0, _, rfl, hs⟩ := up id _ h1
    obtain ⟨_, b0', _, rfl, hs'⟩ := up id' _ h2
    exact hp.inj id id' _ _ hs hs' (setRo_rw h3).1 (by rw [setRo_live] at h4; exact h4) hne
  · intro id b h hl
    obtain ⟨_, b0, _, rfl, hs⟩ := up id _ h
    exact hp.lt id _ hs (by rw [setRo_live] at hl; exact hl)
  · intro id b h hr
    obtain ⟨hi, b0, _, rfl, hs⟩ := up id _ h
    obtain ⟨r1, r2⟩ := setRo_rw hr
    exact Or.inr ⟨by simpa using r2, id, hi, _, hs, r1, rfl⟩
  · refine ⟨fun id p hpin => ?_, fun c m hm => by cases hm⟩
    simp only [callCtx] at hpin
    split at hpin
    · rename_i hm
      obtain rfl := Option.some.inj hpin
      refine ⟨rfl, S.1 id (kn_stoOf hm)⟩
    · cases hpin

theorem gOf_cp {K N : List Nat} {id c es : Nat} (h : (gOf σ' id).inB K N = true) (hc : (gOf σ' id).info.cp = some (c, es)) : memb N c = true := by
  cases hb : gOf σ' id with
  | ar t ro cs cp => rw [hb] at h hc; obtain rfl : cp = some (c, es) := hc; exact (Bool.and_eq_true_iff.1 h).2
  | oq t ro n f cp => rw [hb] at h hc; obtain rfl : cp = some (c, es) := hc; exact h
  | gone => rw [hb] at hc; cases hc
/-- Behind the call, in the caller's terms. -/
theorem callEnd_hp {C : Ctx} {e e' : Env} {s : Sto} {w w' : World} {ids kids nms : List Nat} {wr : Bool} {v : Sv} (hp : Hp C e s w)
    (hk : ∀ id ∈ ids, s (.k id) = look σ (.k id)) (hkk : ∀ id ∈ kids, s (.k id) = none) (hkn : allKn σ.bk ids = true)
    (hnn : ∀ c ∈ nms, s (.n c) = none) (hno : ∀ c ∈ σ.nl, s (.n c) = look σ (.n c)) (hN : ∀ c, memb σ'.nl c = true → c ∈ nms ∨ c ∈ σ.nl) (_hN2 : ∀ c ∈ nms, memb σ'.nl c = true)
    (_hkids : allKn σ'.bk kids = true)
    (hL : ∀ id ∈ (bif wr then rws σ.bk ids else []) ++ kids, (gOf σ' id).inB (ids ++ kids) σ'.nl = true ∧ (gOf σ' id).rwB = true) (hv : v.inB (ids ++ kids) σ'.nl = true)
    (hA : Agree (look (sub σ ids (!wr))) e e') (hp' : Hp (callCtx e s w ids wr) e' (look σ') w') :
    ∃ e'', Agree s e e'' ∧ Hp C e'' (upds s (nms.map Wr.nm ++ ((bif wr then rws σ.bk ids else []) ++ kids).map fun id => .new id (gOf σ' id))) w' ∧ v.den e'' = v.den e' ∧ v.sc (upds s (nms.map Wr.nm ++ ((bif wr then rws σ.bk ids else []) ++ kids).map fun id => .new id (gOf σ' id))) := by
  generalize hLd : (bif wr then rws σ.bk ids else []) ++ kids = L at *
  generalize hT : upds s (nms.map Wr.nm ++ L.map fun id => .new id (gOf σ' id)) = T at *
  have hkn' : ∀ id ∈ ids, ∃ b, alook σ.bk id = some b := fun id hi => Option.isSome_iff_exists.1 (List.all_eq_true.1 hkn id hi)
  have Tk : ∀ i, T (.k i) = if i ∈ L then some (.bk (gOf σ' i).info) else s (.k i) := by
    intro i; rw [← hT, upds_append, (upds_news _ _ _).1, (upds_nms _ _).2 _ (by simp)]
  have Tc : ∀ i o, T (.c i o) = if i ∈ L then ((gOf σ' i).cell o).map .cv else s (.c i o) := by
    intro i o; rw [← hT, upds_append, (upds_news _ _ _).2.1, (upds_nms _ _).2 _ (by simp)]
  have Tn : ∀ c, T (.n c) = if c ∈ nms then some .nm else s (.n c) := by
    intro c; rw [← hT, upds_append, (upds_news _ _ _).2.2.1, (upds_nms _ _).1]
  -- the members of L
  have inL : ∀ i, i ∈ L ↔ (wr = true ∧ i ∈ rws σ.bk ids) ∨ i ∈ kids := by
    intro i; rw [← hLd, List.mem_append]; cases wr <;> simp
  have kidL : ∀ i ∈ kids, i ∈ L := fun i hi => (inL i).2 (Or.inr hi)
  have rwL : ∀ j b, j ∈ ids → s (.k j) = some (.bk b) → b.rw = true → wr = true → j ∈ L := by
    intro j b hj hs hr hw
    refine (inL j).2 (Or.inl ⟨hw, mem_rws.2 ⟨hj, ?_⟩⟩)
    obtain ⟨b0, hb⟩ := hkn' j hj
    rw [hk j hj] at hs
    simp only [look, hb, Option.map_some, Option.some.injEq, LV.bk.injEq] at hs
    exact ⟨b0, hb, by rw [hs]; exact hr⟩
  have LK : ∀ i ∈ L, memb (ids ++ kids) i = true := by
    intro i hi
    rw [memb_iff, List.mem_append]
    rcases (inL i).1 hi with ⟨_, h⟩ | h
    · exact Or.inl (mem_rws.1 h).1
    · exact Or.inr h
  -- the naming
  let e'' : Env := { pl := fun id => if memb kids id = true then e'.pl id else e.pl id, nm := fun c => if memb nms c = true then e'.nm c else e.nm c }
  have subk : ∀ id ∈ ids, kn (look (sub σ ids (!wr))) id := by
    intro id hi
    obtain ⟨b, hb⟩ := hkn' id hi
    unfold kn
    rw [sub_k, if_pos (memb_iff.2 hi), hb]; rfl
  have hAs : Agree s e e'' := by
    refine ⟨fun id hi => ?_, fun c hc => ?_⟩
    · show (if memb kids id = true then _ else _) = _
      rw [if_neg]
      intro hm
      unfold kn at hi; rw [hkk id (memb_iff.1 hm)] at hi; cases hi
    · show (if memb nms c = true then _ else _) = _
      rw [if_neg]
      intro hm
      unfold knn at hc; rw [hnn c (memb_iff.1 hm)] at hc; cases hc
  have plK : ∀ id, memb (ids ++ kids) id = true → e''.pl id = e'.pl id := by
    intro id hm
    show (if memb kids id = true then _ else _) = _
    split
    · rfl
    · rename_i hn
      rcases List.mem_append.1 (memb_iff.1 hm) with h | h
      · exact (hA.1 id (subk id h)).symm
      · exact absurd (memb_iff.2 h) hn
  have hAK : Agree (stoOf (ids ++ kids) σ'.nl) e' e'' := by
    refine ⟨fun id hi => plK id ?_, fun c hc => ?_⟩
    · unfold kn at hi; simp only [stoOf] at hi
      split at hi
      · assumption
      · cases hi
    · have hm : memb σ'.nl c = true := by
        unfold knn at hc; simp only [stoOf] at hc
        split at hc
        · assumption
        · cases hc
      show (if memb nms c = true then _ else _) = _
      split
      · rfl
      · rename_i hn
        rcases hN c hm with h | h
        · exact absurd (memb_iff.2 h) hn
        · refine (hA.2 c ?_).symm
          unfold knn; rw [sub_n]; simp only [look]
          rw [if_pos (memb_iff.2 h)]; rfl
  have hSK : Sub (stoOf (ids ++ kids) σ'.nl) T := by
    refine ⟨fun id hi => ?_, fun c hc => ?_⟩
    · have hm : memb (ids ++ kids) id = true := by
        unfold kn at hi; simp only [stoOf] at hi
        split at hi
        · assumption
        · cases hi
      unfold kn
      rw [Tk]
      split
      · rfl
      · rename_i hn
        rcases List.mem_append.1 (memb_iff.1 hm) with h | h
        · rw [hk id h]
          obtain ⟨b, hb⟩ := hkn' id h
          simp only [look, hb]; rfl
        · exact absurd (kidL id h) hn
    · have hm : memb σ'.nl c = true := by
        unfold knn at hc; simp only [stoOf] at hc
        split at hc
        · assumption
        · cases hc
      unfold knn
      rw [Tn]
      split
      · rfl
      · rename_i hn
        rcases hN c hm with h | h
        · exact absurd h hn
        · rw [hno c h]; simp only [look]; rw [if_pos (memb_iff.2 h)]; rfl
  have hSs : Sub s T := by
    refine ⟨fun id hi => ?_, fun c hc => ?_⟩
    · unfold kn; rw [Tk]; split
      · rfl
      · exact hi
    · unfold knn; rw [Tn]; split
      · rfl
      · exact hc
  -- what the callee may not write has stayed
  have keep : ∀ i b, i ∉ L → s (.k i) = some (.bk b) → b.live = true → w'.heap[(e.pl i).1]? = w.heap[(e.pl i).1]? := by
    intro i b hi hs hl
    refine hp'.fr.block _ (hp.lt i b hs hl) ?_
    rintro (h | ⟨hw, j, hj, b0, hb0, hr, he⟩)
    · have := hp.lt i b hs hl; omega
    · have hjL := rwL j b0 hj hb0 hr hw
      have hne : j ≠ i := fun e => hi (e ▸ hjL)
      exact hp.inj j i b0 b hb0 hs hr hl hne he.symm
  have plS : ∀ i b, i ∉ L → s (.k i) = some (.bk b) → e''.pl i = e.pl i := fun i b hi hs => hAs.1 i (by unfold kn; rw [hs]; rfl)
  have adS : ∀ i b o, i ∉ L → s (.k i) = some (.bk b) → e''.ad i o = e.ad i o := fun i b o hi hs => by unfold Env.ad; rw [plS i b hi hs]
  have adK : ∀ i o, i ∈ L → e''.ad i o = e'.ad i o := fun i o hi => by unfold Env.ad; rw [plK i (LK i hi)]
  have gk : ∀ i b, (gOf σ' i).info = b → b.live = true → look σ' (.k i) = some (.bk b) := by
    intro i b hb hl
    rw [← hb]
    refine look_of_gOf fun h => ?_
    rw [← hb, h] at hl; cases hl
  have rwM : ∀ i b, i ∈ L → (gOf σ' i).info = b → b.rw = true → (callCtx e s w ids wr).M (e'.pl i).1 := fun i b hi hb hr => hp'.mu i b (gk i b hb (rw_live hr)) hr
  have apart : ∀ i b j b', i ∉ L → s (.k i) = some (.bk b) → b.live = true → j ∈ L → (gOf σ' j).info = b' → b'.rw = true → (e'.pl j).1 ≠ (e.pl i).1 := by
    intro i b j b' hi hs hl hj hb hr he
    rcases rwM j b' hj hb hr with h | ⟨hw, k, hk', b0, hb0, hr0, he0⟩
    · have := hp.lt i b hs hl; omega
    · have hkL := rwL k b0 hk' hb0 hr0 hw
      have hne : k ≠ i := fun e => hi (e ▸ hkL)
      exact hp.inj k i b0 b hb0 hs hr0 hl hne (he0.symm.trans he)
  have rwOf : ∀ i ∈ L, (gOf σ' i).info.live = true → (gOf σ' i).info.rw = true := by
    intro i hi hl
    have := (hL i hi).2
    cases hb : gOf σ' i with
    | ar t ro cs cp => rw [hb] at this; exact this
    | oq t ro n f cp => rw [hb] at this; exact this
    | gone => rw [hb] at hl; cases hl
  refine ⟨e'', hAs, ⟨hp.new, ?_, ?_, ?_, ?_, ?_, ?_, ?_, ?_, ?_⟩, Sv.den_agree hAK (Sv.inB_sc hv), (Sv.inB_sc hv).sub hSK⟩
  · intro i off x hx
    rw [Tc] at hx
    by_cases hi : i ∈ L
    · rw [if_pos hi] at hx
      obtain ⟨c, hc, hce⟩ := Option.map_eq_some_iff.1 hx
      obtain rfl : c = x := by simpa using hce
      obtain ⟨h1, ⟨t, ro, n, cp, h2, h3⟩, h4⟩ := hp'.cl i off c ((look_c_gOf i off).trans hx)
      have hin := Cv.inB_sc (gOf_inB (hL i hi).1 hc)
      refine ⟨hin.sub hSK, ⟨t, ro, n, cp, ?_, h3⟩, ?_⟩
      · rw [Tk, if_pos hi, gOf_info h2]
      · rw [adK i off hi, h4, Cv.den_agree hAK hin]
    · rw [if_neg hi] at hx
      obtain ⟨h1, ⟨t, ro, n, cp, h2, h3⟩, h4⟩ := hp.cl i off x hx
      refine ⟨h1.sub hSs, ⟨t, ro, n, cp, by rw [Tk, if_neg hi]; exact h2, h3⟩, ?_⟩
      rw [adS i _ off hi h2, World.cell?_of_block (w := w) (keep i _ hi h2 rfl), h4, Cv.den_agree hAs h1]
  · intro i t n cp hx off ho
    rw [Tk] at hx
    by_cases hi : i ∈ L
    · rw [if_pos hi] at hx
      have hx' : (gOf σ' i).info = .ar t false n cp := by simpa using hx
      rw [adK i off hi]
      exact hp'.ar i t n cp (gk i _ hx' rfl) off ho
    · rw [if_neg hi] at hx
      have hkp := keep i _ hi hx rfl
      rw [adS i _ off hi hx, World.frozen?_of_block (w := w) hkp, World.cell?_of_block (w := w) hkp]
      exact hp.ar i t n cp hx off ho
  · intro i t ro n f cp hx off ho
    rw [Tk] at hx
    by_cases hi : i ∈ L
    · rw [if_pos hi] at hx
      have hx' : (gOf σ' i).info = .oq t ro n f cp := by simpa using hx
      rw [adK i off hi]
      exact hp'.oq i t ro n f cp (gk i _ hx' rfl) off ho
    · rw [if_neg hi] at hx
      have hkp := keep i _ hi hx rfl
      rw [adS i _ off hi hx, World.frozen?_of_block (w := w) hkp, World.cell?_of_block (w := w) hkp]
      exact hp.oq i t ro n f cp hx off ho
  · intro i b c es hx hcp
    rw [Tk] at hx
    have hl : b.live = true := by cases b <;> first | rfl | cases hcp
    by_cases hi : i ∈ L
    · rw [if_pos hi] at hx
      obtain rfl : (gOf σ' i).info = b := by simpa using hx
      obtain ⟨h1, h2⟩ := hp'.cp i _ c es (gk i _ rfl hl) hcp
      have hm := gOf_cp (hL i hi).1 hcp
      refine ⟨hSK.2 c (knn_stoOf hm), ?_⟩
      rw [plK i (LK i hi), hAK.2 c (knn_stoOf hm)]
      exact h2
    · rw [if_neg hi] at hx
      obtain ⟨h1, h2, cs, h3, h4⟩ := hp.cp i b c es hx hcp
      refine ⟨hSs.2 c h1, ?_⟩
      rw [plS i b hi hx, hAs.2 c h1]
      exact ⟨h2, cs, (keep i b hi hx hl).trans h3, h4⟩
  · intro i i' b b' h1 h2 h3 h4 hne
    rw [Tk] at h1 h2
    by_cases hi : i ∈ L
    · rw [if_pos hi] at h1
      have hb : (gOf σ' i).info = b := by simpa using h1
      by_cases hi' : i' ∈ L
      · rw [if_pos hi'] at h2
        have hb' : (gOf σ' i').info = b' := by simpa using h2
        rw [plK i (LK i hi), plK i' (LK i' hi')]
        exact hp'.inj i i' b b' (gk i b hb (rw_live h3)) (gk i' b' hb' h4) h3 h4 hne
      · rw [if_neg hi'] at h2
        rw [plK i (LK i hi), plS i' b' hi' h2]
        exact apart i' b' i b hi' h2 h4 hi hb h3
    · rw [if_neg hi] at h1
      by_cases hi' : i' ∈ L
      · rw [if_pos hi'] at h2
        have hb' : (gOf σ' i').info = b' := by simpa using h2
        rw [plS i b hi h1, plK i' (LK i' hi')]
        exact (apart i b i' b' hi h1 (rw_live h3) hi' hb' (by rw [← hb']; exact rwOf i' hi' (by rw [hb']; exact h4))).symm
      · rw [if_neg hi'] at h2
        rw [plS i b hi h1, plS i' b' hi' h2]
        exact hp.inj i i' b b' h1 h2 h3 h4 hne
  · intro i b hx hl
    rw [Tk] at hx
    by_cases hi : i ∈ L
    · rw [if_pos hi] at hx
      have hb : (gOf σ' i).info = b := by simpa using hx
      rw [plK i (LK i hi)]
      exact hp'.lt i b (gk i b hb hl) hl
    · rw [if_neg hi] at hx
      rw [plS i b hi hx]
      have h1 := hp.lt i b hx hl
      have h2 := hp'.fr.size
      simp only [callCtx] at h2
      omega
  · intro i b hx hr
    rw [Tk] at hx
    by_cases hi : i ∈ L
    · rw [if_pos hi] at hx
      have hb : (gOf σ' i).info = b := by simpa using hx
      rw [plK i (LK i hi)]
      rcases rwM i b hi hb hr with h | ⟨hw, k, hk', b0, hb0, hr0, he0⟩
      · exact hp.new _ (by have := hp.fr.size; omega)
      · rw [he0]; exact hp.mu k b0 hb0 hr0
    · rw [if_neg hi] at hx
      rw [plS i b hi hx]
      exact hp.mu i b hx hr
  · exact hp.pin.mono hAs hSs
  · have f1 := hp.fr
    have f2 := hp'.fr
    refine ⟨f2.os.trans f1.os, f2.tape.trans f1.tape, f2.output.trans f1.output, Nat.le_trans f1.size f2.size, fun k hk' hM => ?_, f1.gl⟩
    rw [← f1.block k hk' hM]
    refine f2.block k (show k < w.heap.size from Nat.lt_of_lt_of_le hk' f1.size) ?_
    rintro (h | ⟨hw, j, hj, b0, hb0, hr, he⟩)
    · have := f1.size
      omega
    · exact hM (by rw [he]; exact hp.mu j b0 hb0 hr)
end
end Sx
end Go.Proofs.YtpdhkgfdmpofiaaGreatDoor
