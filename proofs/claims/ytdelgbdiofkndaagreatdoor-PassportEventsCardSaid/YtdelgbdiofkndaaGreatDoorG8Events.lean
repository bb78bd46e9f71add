/-
  A function that writes into one block that it is handed, and reads one more: what is known of it at one state is known at every state that has the two blocks.
-/
import Derived.Test.YtdelgbdiofkndaaGreatDoorG7Events
import Derived.DataReads
import Derived.Deep.Slices
set_option linter.unusedSimpArgs false
set_option linter.unusedVariables false
namespace Go.Proofs.YtdelgbdiofkndaaGreatDoor
namespace Sx
open Go.RowKit

section
variable {P : Program} {tb : Tb}
/-- A block at 1 that may be written, a block at 0 that is read. -/
def stW (T : TypeId) (cs : List Cv) (Tg : TypeId) (gs : List Cv) : St := { tm := [], bk := [(1, .ar T false cs none), (0, .ar Tg true gs none)], nx := 2, nl := [], nn := 0, lg := [], vr := [] }
def rho (id gid : Nat) : Nat → Nat := fun i => if i = 1 then id else gid
def Blk.putL (cs : List Cv) : Blk → Blk
  | .ar t ro _ cp => .ar t ro cs cp
  | b => b
def putC (σ : St) (id : Nat) (cs : List Cv) : St := { σ with bk := amod (Blk.putL cs) σ.bk id, lg := (cellWrs id 0 cs).reverse ++ σ.lg }
theorem mem_cellWrs {id : Nat} : ∀ {cs : List Cv} {o j : Nat}, j < cs.length → ∃ v, Wr.cell id (o + j) v ∈ cellWrs id o cs
  | [], _, _, h => by simp at h
  | c :: cs, o, 0, _ => ⟨c, List.mem_cons_self⟩
  | c :: cs, o, j + 1, h => by
    obtain ⟨v, hv⟩ := mem_cellWrs (id := id) (cs := cs) (o := o + 1) (j := j) (by simpa using h)
    exact ⟨v, List.mem_cons_of_mem _ (by rwa [show o + (j + 1) = o + 1 + j by omega])⟩
theorem inB_den {c : Cv} {K : List Nat} (h : c.inB K [] = true) {e e' : Env} (hA : ∀ i, memb K i = true → e'.pl i = e.pl i) : c.den e' = c.den e := by
  refine Cv.den_agree (s := stoOf K []) ⟨fun i hi => hA i ?_, fun d hd => ?_⟩ (Cv.inB_sc h)
  · unfold kn at hi; simp only [stoOf] at hi
    split at hi
    · assumption
    · cases hi
  · unfold knn at hd; simp only [stoOf, memb] at hd; cases hd
theorem ren_sc {c : Cv} {K : List Nat} (h : c.inB K [] = true) {ρ : Nat → Nat} {s : Sto} (hk : ∀ i, memb K i = true → kn s (ρ i)) : (c.ren ρ).sc s := by
  have hn : ∀ n : Sn, n.inB [] = true → n.sc s := fun n hn => by cases n <;> first | trivial | cases hn
  cases c with
  | ptr id off =>
    simp only [Cv.inB, Bool.and_eq_true] at h
    exact ⟨hk id h.1, hn _ h.2⟩
  | slc id off len cap =>
    simp only [Cv.inB, Bool.and_eq_true] at h
    exact ⟨hk id h.1.1.1, hn _ h.1.1.2, hn _ h.1.2, hn _ h.2⟩
  | fn f caps =>
    intro p hp
    obtain ⟨q, hq, rfl⟩ := List.mem_map.1 hp
    have := List.all_eq_true.1 h q hq
    cases q with
    | ptr id off => exact hk id this
    | val v l => trivial
  | _ => trivial
theorem sub_st (T : TypeId) (cs : List Cv) (Tg : TypeId) (gs : List Cv) : Sub (stoOf [1, 0] []) (look (stW T cs Tg gs)) := by
  refine ⟨fun i hi => ?_, fun c hc => ?_⟩
  · have hm : memb [1, 0] i = true := by
      unfold kn at hi; simp only [stoOf] at hi
      split at hi
      · assumption
      · cases hi
    have := memb_iff.1 hm
    simp only [List.mem_cons, List.not_mem_nil, or_false] at this
    rcases this with rfl | rfl <;> rfl
  · unfold knn at hc; simp only [stoOf, memb] at hc; cases hc
theorem FunOk.renW {f : FuncId} {args0 args : List Sv} {T Tg : TypeId} {cs gs cs' cs1 gs1 : List Cv} {σ0' σ : St} {v : Sv} {ro : Bool} {cpg : Option (Nat × Nat)} {id gid : Nat} (h : FunOk P f args0 (stW T cs Tg gs) v σ0')
    (hb : alook σ.bk id = some (.ar T false cs1 none)) (hg : alook σ.bk gid = some (.ar Tg ro gs1 cpg)) (hne : id ≠ gid) (sc1 : SameCells (rho id gid) cs cs1) (sg : SameCells (rho id gid) gs gs1)
    (ics : cs.all (Cv.inB [1, 0] []) = true) (igs : gs.all (Cv.inB [1, 0] []) = true)
    (hr : alook σ0'.bk 1 = some (.ar T false cs' none)) (hlen : cs'.length = cs.length) (ics' : cs'.all (Cv.inB [1, 0] []) = true)
    (ha : ∀ e, args.map (·.den e) = args0.map (·.den (e.ren (rho id gid)))) (hs : ∀ x ∈ args0, x.sc (look (stW T cs Tg gs))) (hv : v.freeB = true) :
    FunOk P f args σ v (putC σ id (cs'.map (Cv.ren (rho id gid)))) := by
  have hkeep : KeepL σ (putC σ id (cs'.map (Cv.ren (rho id gid)))) := by
    intro i off _ hu
    by_cases hi : i = id
    · subst hi
      have hlen1 : cs1.length = cs.length := sc1.1
      have hge : cs.length ≤ off := by
        rcases Nat.lt_or_ge off cs.length with h1 | h1
        · exfalso
          obtain ⟨v, hv⟩ := mem_cellWrs (id := i) (cs := cs'.map (Cv.ren (rho i gid))) (o := 0) (j := off) (by rw [List.length_map, hlen]; exact h1)
          have := List.all_eq_true.1 hu _ (List.mem_append_left _ (List.mem_reverse.2 hv))
          simp at this
        · exact h1
      simp only [look, putC, alook_amod, if_true, hb, Option.map_some, Option.bind_some, Blk.putL, Blk.cell]
      rw [List.getElem?_eq_none (by rw [List.length_map, hlen]; exact hge), List.getElem?_eq_none (by rw [hlen1]; exact hge)]
    · simp only [look, putC, alook_amod, if_neg hi]
  refine ⟨fun C e w hp _ => ?_, hkeep⟩
  have S0 := sub_st T cs Tg gs
  have k1 : look σ (.k id) = some (.bk (.ar T false cs1.length none)) := by simp only [look, hb]; rfl
  have kg : look σ (.k gid) = some (.bk (.ar Tg ro gs1.length cpg)) := by simp only [look, hg]; rfl
  have r1 : rho id gid 1 = id := rfl
  have r0 : rho id gid 0 = gid := rfl
  let C1 : Ctx := ⟨fun k => k = (e.pl id).1 ∨ w.heap.size ≤ k, fun _ => none, fun _ => none, w⟩
  have cellOf : ∀ {i : Nat} {b0 b1 : List Cv} {j : Nat} {c : Cv} {t : TypeId} {r : Bool} {cp : Option (Nat × Nat)}, alook σ.bk (rho id gid i) = some (.ar t r b1 cp) → SameCells (rho id gid) b0 b1 → b0[j]? = some c → w.cell? ((e.ren (rho id gid)).ad i j) = some (c.den (e.ren (rho id gid))) := by
    intro i b0 b1 j c t r cp hbk hsame hc
    have hlt := (List.getElem?_eq_some_iff.1 hc).1
    have hlt1 : j < b1.length := by rw [hsame.1]; exact hlt
    have h5 := hsame.2 e j
    rw [hc, List.getElem?_eq_getElem hlt1] at h5
    have h5 : (b1[j]).den e = c.den (e.ren (rho id gid)) := by simpa using h5
    have h6 : look σ (.c (rho id gid i) j) = some (.cv b1[j]) := by
      simp only [look, hbk, Option.bind_some, Blk.cell, List.getElem?_eq_getElem hlt1, Option.map_some]
    obtain ⟨_, _, h7⟩ := hp.cl _ _ _ h6
    rw [h5] at h7
    exact h7
  have two : ∀ i b, look (stW T cs Tg gs) (.k i) = some (.bk b) → (i = 1 ∧ b = .ar T false cs.length none) ∨ (i = 0 ∧ b = .ar Tg true gs.length none) := by
    intro i b hib
    simp only [look, stW, alook] at hib
    cases h1 : Nat.beq 1 i with
    | true =>
      rw [h1] at hib
      obtain rfl := beq_iff'.1 h1
      exact Or.inl ⟨rfl, by simpa [Blk.info] using hib.symm⟩
    | false =>
      rw [h1] at hib
      cases h0 : Nat.beq 0 i with
      | true =>
        rw [h0] at hib
        obtain rfl := beq_iff'.1 h0
        exact Or.inr ⟨rfl, by simpa [Blk.info] using hib.symm⟩
      | false => rw [h0] at hib; cases hib
  have hp0 : Hp C1 (e.ren (rho id gid)) (look (stW T cs Tg gs)) w := by
    refine ⟨fun k hk => Or.inr hk, ?_, ?_, ?_, ?_, ?_, ?_, ?_, ⟨fun _ _ h => (by cases h), fun _ _ h => (by cases h)⟩, ⟨rfl, rfl, rfl, Nat.le_refl _, fun _ _ _ => rfl, hp.fr.glob fun k hk hm => by
      rcases hm with hm | hm
      · exact hm ▸ hp.mu id _ k1 rfl
      · have : w.heap.size ≤ k := hm
        have := hp.fr.size
        omega⟩⟩
    · intro i j c hc
      simp only [look, stW, alook] at hc
      cases h1 : Nat.beq 1 i with
      | true =>
        rw [h1] at hc
        obtain rfl := beq_iff'.1 h1
        obtain ⟨c', hc1, hc2⟩ := Option.map_eq_some_iff.1 (show (cs[j]?).map LV.cv = some (.cv c) from hc)
        obtain rfl : c' = c := by simpa using hc2
        exact ⟨(Cv.inB_sc (List.all_eq_true.1 ics _ (List.mem_of_getElem? hc1))).sub S0, ⟨T, false, cs.length, none, rfl, (List.getElem?_eq_some_iff.1 hc1).1⟩, cellOf (i := 1) hb sc1 hc1⟩
      | false =>
        rw [h1] at hc
        cases h0 : Nat.beq 0 i with
        | true =>
          rw [h0] at hc
          obtain rfl := beq_iff'.1 h0
          obtain ⟨c', hc1, hc2⟩ := Option.map_eq_some_iff.1 (show (gs[j]?).map LV.cv = some (.cv c) from hc)
          obtain rfl : c' = c := by simpa using hc2
          exact ⟨(Cv.inB_sc (List.all_eq_true.1 igs _ (List.mem_of_getElem? hc1))).sub S0, ⟨Tg, true, gs.length, none, rfl, (List.getElem?_eq_some_iff.1 hc1).1⟩, cellOf (i := 0) hg sg hc1⟩
        | false => rw [h0] at hc; cases hc
    · intro i t n cp hi off ho
      rcases two i _ hi with ⟨rfl, h2⟩ | ⟨rfl, h2⟩
      · cases h2
        exact hp.ar id T cs1.length none k1 off (by rw [sc1.1]; exact ho)
      · cases h2
    · intro i t r n f cp hi
      rcases two i _ hi with ⟨_, h2⟩ | ⟨_, h2⟩ <;> cases h2
    · intro i b c es hi hcp
      rcases two i _ hi with ⟨_, rfl⟩ | ⟨_, rfl⟩ <;> cases hcp
    · intro i j b b' hi hj hrw hl hij
      rcases two i _ hi with ⟨rfl, rfl⟩ | ⟨rfl, rfl⟩
      · rcases two j _ hj with ⟨rfl, _⟩ | ⟨rfl, _⟩
        · exact absurd rfl hij
        · exact hp.inj id gid _ _ k1 kg rfl rfl hne
      · cases hrw
    · intro i b hi hl
      rcases two i _ hi with ⟨rfl, _⟩ | ⟨rfl, _⟩
      · exact hp.lt id _ k1 rfl
      · exact hp.lt gid _ kg rfl
    · intro i b hi hrw
      rcases two i _ hi with ⟨rfl, rfl⟩ | ⟨rfl, rfl⟩
      · exact Or.inl rfl
      · cases hrw
  have h1 := h.run C1 (e.ren (rho id gid)) w hp0 hs
  rw [ha e]
  refine h1.mono fun en w' => ?_
  rintro ⟨e', hA, hp', rfl, -⟩
  have hpl : ∀ i, memb [1, 0] i = true → e'.pl i = (e.ren (rho id gid)).pl i := fun i hi => hA.1 i (S0.1 i (kn_stoOf hi))
  have kn' : ∀ i, memb [1, 0] i = true → kn (look (putC σ id (cs'.map (Cv.ren (rho id gid))))) (rho id gid i) := by
    intro i hi
    rw [kn_look]
    simp only [putC, alook_amod]
    have := memb_iff.1 hi
    simp only [List.mem_cons, List.not_mem_nil, or_false] at this
    rcases this with rfl | rfl
    · rw [r1, if_pos rfl, hb]; rfl
    · rw [r0, if_neg (Ne.symm hne), hg]; rfl
  have kk : ∀ i, look (putC σ id (cs'.map (Cv.ren (rho id gid)))) (.k i) = look σ (.k i) := by
    intro i
    simp only [look, putC, alook_amod]
    split
    · rename_i e1
      subst e1
      rw [hb]
      simp only [Option.map_some, Blk.putL, Blk.info, List.length_map, hlen, sc1.1]
    · rfl
  have kc : ∀ i off, i ≠ id → look (putC σ id (cs'.map (Cv.ren (rho id gid)))) (.c i off) = look σ (.c i off) := by
    intro i off hi
    simp only [look, putC, alook_amod, if_neg hi]
  have kcid : ∀ off, look (putC σ id (cs'.map (Cv.ren (rho id gid)))) (.c id off) = ((cs'[off]?).map (Cv.ren (rho id gid))).map .cv := by
    intro off
    simp only [look, putC, alook_amod, if_true, hb, Option.map_some, Option.bind_some, Blk.putL, Blk.cell, List.getElem?_map]
  have hS : Sub (look σ) (look (putC σ id (cs'.map (Cv.ren (rho id gid))))) := ⟨fun i hi => by unfold kn at hi ⊢; rw [kk]; exact hi, fun _ hc => hc⟩
  have ad1 : ∀ off, e'.ad 1 off = e.ad id off := fun off => by
    unfold Env.ad; rw [hpl 1 rfl]; rfl
  have kr : look σ0' (.k 1) = some (.bk (.ar T false cs'.length none)) := by simp only [look, hr]; rfl
  have keep : ∀ i b, i ≠ id → look σ (.k i) = some (.bk b) → b.live = true → w'.heap[(e.pl i).1]? = w.heap[(e.pl i).1]? := by
    intro i b hi hbk hl
    refine hp'.fr.block _ (hp.lt i b hbk hl) ?_
    rintro (h2 | h2)
    · exact hp.inj id i _ b k1 hbk rfl hl (Ne.symm hi) h2.symm
    · have := hp.lt i b hbk hl
      omega
  refine ⟨e, Agree.refl _ _, ⟨hp.new, ?_, ?_, ?_, ?_, ?_, ?_, ?_, hp.pin.mono (Agree.refl _ _) hS, ?_⟩, by rw [Sv.free_den hv e' e], Sv.free_sc hv _⟩
  · intro i off x hx
    by_cases hi : i = id
    · subst hi
      rw [kcid] at hx
      obtain ⟨c2, hc2, hc3⟩ := Option.map_eq_some_iff.1 hx
      obtain ⟨c, hc, rfl⟩ := Option.map_eq_some_iff.1 hc2
      obtain rfl : c.ren (rho i gid) = x := by simpa using hc3
      have hin := List.all_eq_true.1 ics' _ (List.mem_of_getElem? hc)
      refine ⟨ren_sc hin kn', ⟨T, false, cs1.length, none, by rw [kk]; exact k1, ?_⟩, ?_⟩
      · have := (List.getElem?_eq_some_iff.1 hc).1
        rw [sc1.1, ← hlen]; exact this
      · have h7 := (hp'.cl 1 off c (by simp only [look, hr, Option.bind_some, Blk.cell, hc]; rfl)).2.2
        rw [ad1] at h7
        rw [h7, Cv.ren_den, inB_den hin hpl]
    · rw [kc i off hi] at hx
      obtain ⟨q1, ⟨t, r, n, cp, q2, q3⟩, q4⟩ := hp.cl i off x hx
      exact ⟨q1.sub hS, ⟨t, r, n, cp, by rw [kk]; exact q2, q3⟩, (World.cell?_of_block (w := w) (keep i _ hi q2 rfl)).trans q4⟩
  · intro i t n cp hx off ho
    rw [kk] at hx
    by_cases hi : i = id
    · subst hi
      rw [k1] at hx
      obtain ⟨rfl, rfl, rfl⟩ : T = t ∧ cs1.length = n ∧ none = cp := by simpa using hx
      have := hp'.ar 1 T cs'.length none kr off (by rw [hlen, ← sc1.1]; exact ho)
      rw [ad1] at this
      exact this
    · have hk := keep i _ hi hx rfl
      have := hp.ar i t n cp hx off ho
      exact ⟨(World.frozen?_of_block (w := w) hk).trans this.1, by rw [World.cell?_of_block (w := w) hk]; exact this.2⟩
  · intro i t r n f cp hx off ho
    rw [kk] at hx
    by_cases hi : i = id
    · subst hi; rw [k1] at hx; cases hx
    · have hk := keep i _ hi hx rfl
      have := hp.oq i t r n f cp hx off ho
      exact ⟨(World.cell?_of_block (w := w) hk).trans this.1, fun hro => (World.frozen?_of_block (w := w) hk).trans (this.2 hro)⟩
  · intro i b c es hx hcp
    rw [kk] at hx
    by_cases hi : i = id
    · subst hi
      rw [k1] at hx
      obtain rfl : BI.ar T false cs1.length none = b := by simpa using hx
      cases hcp
    · have hl : b.live = true := by cases b <;> first | rfl | cases hcp
      obtain ⟨q1, q2, a, q3, q4⟩ := hp.cp i b c es hx hcp
      exact ⟨hS.2 c q1, q2, a, (keep i b hi hx hl).trans q3, q4⟩
  · intro i j b b' hi hj hrw hl hij
    rw [kk] at hi hj
    exact hp.inj i j b b' hi hj hrw hl hij
  · intro i b hi hl
    rw [kk] at hi
    exact Nat.lt_of_lt_of_le (hp.lt i b hi hl) hp'.fr.size
  · intro i b hi hrw
    rw [kk] at hi
    exact hp.mu i b hi hrw
  · have F := hp.fr
    have G := hp'.fr
    refine ⟨G.os.trans F.os, G.tape.trans F.tape, G.output.trans F.output, Nat.le_trans F.size G.size, fun k hk hM => ?_, F.gl⟩
    refine (G.block k (Nat.lt_of_lt_of_le hk F.size) ?_).trans (F.block k hk hM)
    rintro (h2 | h2)
    · exact hM (h2 ▸ hp.mu id _ k1 rfl)
    · have : w.heap.size ≤ k := h2
      have := F.size
      omega
/-- Cells that come to the same. -/
theorem FunOk.cells {f : FuncId} {args : List Sv} {σ : St} {v : Sv} {id : Nat} {t : TypeId} {ro : Bool} {cs1 A B : List Cv} {cp : Option (Nat × Nat)} (h : FunOk P f args σ v (putC σ id A)) (hb : alook σ.bk id = some (.ar t ro cs1 cp)) (hl : B.length = A.length) (hl1 : B.length = cs1.length)
    (hd : ∀ (e : Env) (j : Nat), (B[j]?).map (Cv.den e) = (A[j]?).map (Cv.den e)) (hs : ∀ c ∈ B, ∀ s : Sto, (∀ i, kn (look σ) i → kn s i) → c.sc s) (hv : v.freeB = true) : FunOk P f args σ v (putC σ id B) := by
  have kk : ∀ i, look (putC σ id B) (.k i) = look (putC σ id A) (.k i) := by
    intro i
    simp only [look, putC, alook_amod]
    split
    · rename_i e1; subst e1
      rw [hb]; simp only [Option.map_some, Blk.putL, Blk.info, hl]
    · rfl
  have kc : ∀ i off, i ≠ id → look (putC σ id B) (.c i off) = look (putC σ id A) (.c i off) := by
    intro i off hi
    simp only [look, putC, alook_amod, if_neg hi]
  have kA : ∀ off, look (putC σ id A) (.c id off) = (A[off]?).map .cv := by
    intro off; simp only [look, putC, alook_amod, if_true, hb, Option.map_some, Option.bind_some, Blk.putL, Blk.cell]
  have kB : ∀ off, look (putC σ id B) (.c id off) = (B[off]?).map .cv := by
    intro off; simp only [look, putC, alook_amod, if_true, hb, Option.map_some, Option.bind_some, Blk.putL, Blk.cell]
  have hS : Sub (look (putC σ id A)) (look (putC σ id B)) := ⟨fun i hi => by unfold kn at hi ⊢; rw [kk]; exact hi, fun _ hc => hc⟩
  have hS0 : ∀ i, kn (look σ) i → kn (look (putC σ id B)) i := by
    intro i hi
    rw [kn_look] at hi ⊢
    simp only [putC, alook_amod]
    split
    · rename_i e1; subst e1; rw [hb]; rfl
    · exact hi
  refine ⟨fun C e w hp ha => (h.run C e w hp ha).mono fun en w' => ?_, ?_⟩
  · rintro ⟨e', hA, hp', rfl, -⟩
    refine ⟨e', hA, ⟨hp'.new, ?_, fun i t n cp hx => hp'.ar i t n cp (by rw [← kk]; exact hx), fun i t r n f cp hx => hp'.oq i t r n f cp (by rw [← kk]; exact hx), fun i b c es hx => hp'.cp i b c es (by rw [← kk]; exact hx), fun i j b b' hx hy => hp'.inj i j b b' (by rw [← kk]; exact hx) (by rw [← kk]; exact hy),
      fun i b hx => hp'.lt i b (by rw [← kk]; exact hx), fun i b hx => hp'.mu i b (by rw [← kk]; exact hx), hp'.pin.mono (Agree.refl _ _) hS, hp'.fr⟩, rfl, Sv.free_sc hv _⟩
    intro i off x hx
    by_cases hi : i = id
    · subst hi
      rw [kB] at hx
      obtain ⟨c, hc, hc2⟩ := Option.map_eq_some_iff.1 hx
      obtain rfl : c = x := by simpa using hc2
      have hlt : off < A.length := by rw [← hl]; exact (List.getElem?_eq_some_iff.1 hc).1
      have h5 := hd e' off
      rw [hc, List.getElem?_eq_getElem hlt] at h5
      have h5 : c.den e' = (A[off]).den e' := by simpa using h5
      obtain ⟨_, ⟨t, r, n, cp, q2, q3⟩, q4⟩ := hp'.cl i off A[off] (by rw [kA, List.getElem?_eq_getElem hlt]; rfl)
      exact ⟨hs c (List.mem_of_getElem? hc) _ hS0, ⟨t, r, n, cp, by rw [kk]; exact q2, q3⟩, by rw [h5]; exact q4⟩
    · rw [kc i off hi] at hx
      obtain ⟨q1, ⟨t, r, n, cp, q2, q3⟩, q4⟩ := hp'.cl i off x hx
      exact ⟨q1.sub hS, ⟨t, r, n, cp, by rw [kk]; exact q2, q3⟩, q4⟩
  · intro i off _ hu
    by_cases hi : i = id
    · subst hi
      have hge : B.length ≤ off := by
        rcases Nat.lt_or_ge off B.length with h1 | h1
        · exfalso
          obtain ⟨v, hv⟩ := mem_cellWrs (id := i) (cs := B) (o := 0) (j := off) h1
          have := List.all_eq_true.1 hu _ (List.mem_append_left _ (List.mem_reverse.2 hv))
          simp at this
        · exact h1
      rw [kB, List.getElem?_eq_none hge]
      simp only [look, hb, Option.bind_some, Blk.cell]
      rw [List.getElem?_eq_none (by omega)]
    · simp only [look, putC, alook_amod, if_neg hi]
end
end Sx
end Go.Proofs.YtdelgbdiofkndaaGreatDoor

/-
  Code that is stopped at loops: what stands behind a stop is a stack, which is gone on with by hand.
-/
set_option linter.unusedSimpArgs false
set_option linter.unusedVariables false
namespace Go.Proofs.YtdelgbdiofkndaaGreatDoor
namespace Sx
open Go.RowKit

section
variable {P : Program} {tb : Tb}

/-- From the head of a loop's round. -/
def LoopFrom (P : Program) (c : Code) (Q : Exit → Act → World → Prop) (a : Act) (w : World) : Prop :=
  ∀ b k cs, ∃ e a' w', Q e a' w' ∧ Arrives P (lone (b.at a (.code c :: .inLoop c :: k)) cs w) b k cs e a' w'
theorem LoopFrom.wp {c : Code} {Q : Exit → Act → World → Prop} {a : Act} {w : World} (h : LoopFrom P c Q a w) : (Code.loop c).wp P Q a w := by
  intro b k cs
  obtain ⟨e, a', w', hq, harr⟩ := h b k cs
  exact ⟨e, a', w', hq, .of_steps (.one step_loop) harr⟩
theorem LoopFrom.once {c : Code} {Q : Exit → Act → World → Prop} {a : Act} {w : World} (h : c.wp P (Exit.then (LoopFrom P c Q) Q) a w) : LoopFrom P c Q a w := by
  intro b k cs
  obtain ⟨e, a₁, w₁, hq, harr⟩ := h b (.inLoop c :: k) cs
  cases e with
  | normal =>
    obtain ⟨e₂, a₂, w₂, hq₂, harr₂⟩ := hq b k cs
    exact ⟨e₂, a₂, w₂, hq₂, .of_steps (Steps.trans harr (.one step_inLoop)) harr₂⟩
  | exit id => exact ⟨_, a₁, w₁, hq, .pass (x := .inLoop c) rfl (fun _ _ => .inl (by simp)) harr⟩
  | goto l => exact ⟨_, a₁, w₁, hq, .pass (x := .inLoop c) rfl (fun _ _ => .inl (by simp)) harr⟩
  | ret => exact ⟨_, a₁, w₁, hq, .pass (x := .inLoop c) rfl (fun _ _ => .inl (by simp)) harr⟩
  | panic ch => exact ⟨_, a₁, w₁, hq, .pass (x := .inLoop c) rfl (fun _ _ => .inl (by simp)) harr⟩
  | outgrown => exact ⟨_, a₁, w₁, hq, .pass (x := .inLoop c) rfl (fun _ _ => .inl (by simp)) harr⟩
theorem LoopFrom.rounds {c : Code} {Q : Exit → Act → World → Prop} : ∀ {n : Nat} {a : Act} {w : World}, Code.rounds P c Q n a w → LoopFrom P c Q a w
  | 0, _, _, h => h.elim
  | n + 1, a, w, h => LoopFrom.once (Code.wp_mono (fun e a' w' q => by
      cases e with
      | normal => exact LoopFrom.rounds (n := n) q
      | _ => exact q) h)

/-- What is still to be done. -/
inductive Kt where
  | code (c : Code)
  | blk (id : Nat)
  | again (c : Code)
def kPost (P : Program) (Q : Exit → Act → World → Prop) : List Kt → Exit → Act → World → Prop
  | [] => Q
  | .code c :: k => Exit.then (fun a w => c.wp P (kPost P Q k) a w) (kPost P Q k)
  | .blk id :: k => Exit.inBlock id (kPost P Q k)
  | .again c :: k => Exit.then (LoopFrom P c (kPost P Q k)) (kPost P Q k)
inductive Fin where
  | out (o : Out)
  | wait (k : List Kt)
def FPost (P : Program) (Q : Exit → Act → World → Prop) : Fin → Act → World → Prop
  | .out o => Post P Q o
  | .wait k => kPost P Q k .normal
abbrev SLeaf := Fin × St
/-- From the stack k and the state σ to what x says. -/
def SegD (P : Program) (N : Nat) (σ : St) (k : List Kt) (o : Out) (x : SLeaf) : Prop :=
  ∀ (C : Ctx) (e : Env) (a : Act) (w : World) (Q : Exit → Act → World → Prop), Rel C N e (look σ) a w → (∀ e' a' w', Rel C N e' (look x.2) a' w' → FPost P Q x.1 a' w') → Post P (fun o => kPost P Q k o) o a w
theorem SegD.trans {N : Nat} {σ σ' : St} {k k' : List Kt} {o : Out} {x : SLeaf} (h : SegD P N σ k o (.wait k', σ')) (h2 : SegD P N σ' k' .normal x) : SegD P N σ k o x :=
  fun C e a w Q hR hQ => h C e a w Q hR fun e' a' w' hR' => h2 C e' a' w' Q hR' hQ

def hasStop (stops : List Nat) : Nat → Code → Bool
  | 0, _ => true
  | n + 1, c => match c with
    | .seq a b => hasStop stops n a || hasStop stops n b
    | .cond _ a b => hasStop stops n a || hasStop stops n b
    | .block id b => memb stops id || hasStop stops n b
    | .loop b => hasStop stops n b
    | _ => false
def evS (tb : Tb) (wf : List FuncId) (call : CallF) (N cf : Nat) (stops : List Nat) : Nat → List Kt → Out → St → Tree SLeaf
  | 0, _, _, _ => .fail
  | n + 1, k, o, σ => match o with
    | .stop _ => .fail
    | .normal => match k with
      | [] => .leaf (.out .normal, σ)
      | .blk _ :: k => evS tb wf call N cf stops n k .normal σ
      | .again c :: k => evS tb wf call N cf stops n (.code c :: .again c :: k) .normal σ
      | .code c :: k => match hasStop stops cf c with
        | false => (evC tb wf call N [] cf c σ).bind fun x => evS tb wf call N cf stops n k x.1 x.2
        | true => match c with
          | .seq a b => evS tb wf call N cf stops n (.code a :: .code b :: k) .normal σ
          | .block id b => match memb stops id with
            | true => .leaf (.wait (.code (.block id b) :: k), σ)
            | false => evS tb wf call N cf stops n (.code b :: .blk id :: k) .normal σ
          | .loop b => evS tb wf call N cf stops n (.code b :: .again b :: k) .normal σ
          | .cond c a b => match evO σ c with
            | some (.one (.b v true)) => match v with
              | true => evS tb wf call N cf stops n (.code a :: k) .normal σ
              | false => evS tb wf call N cf stops n (.code b :: k) .normal σ
            | some (.one (.b v false)) => .br v (evS tb wf call N cf stops n (.code a :: k) .normal σ) (evS tb wf call N cf stops n (.code b :: k) .normal σ)
            | _ => .fail
          | _ => .fail
    | .exit i => match k with
      | [] => .leaf (.out (.exit i), σ)
      | .blk id :: k => match Nat.beq i id with
        | true => evS tb wf call N cf stops n k .normal σ
        | false => evS tb wf call N cf stops n k (.exit i) σ
      | .again _ :: k => evS tb wf call N cf stops n k (.exit i) σ
      | .code _ :: k => evS tb wf call N cf stops n k (.exit i) σ
    | .ret => match k with
      | [] => .leaf (.out .ret, σ)
      | _ :: k => evS tb wf call N cf stops n k .ret σ
theorem evS_ok {wf : List FuncId} {call : CallF} {N cf : Nat} {stops : List Nat} (hT : TbOk P tb) (hm : P.follows .mixedOrders = true) (hc : CallFOk P call) : ∀ (n : Nat) (k : List Kt) (o : Out) (σ : St) (y : SLeaf), (evS tb wf call N cf stops n k o σ).At y → SegD P N σ k o y
  | 0, _, _, _, _, h => h.elim
  | n + 1, k, o, σ, y, h => by
    have ih := evS_ok (wf := wf) (N := N) (cf := cf) (stops := stops) hT hm hc n
    cases o with
    | stop l => exact h.elim
    | normal =>
      cases k with
      | nil => obtain rfl : _ = y := h; exact fun C e a w Q hR hQ => hQ e a w hR
      | cons x k =>
        cases x with
        | blk id => exact fun C e a w Q hR hQ => ih k .normal σ y h C e a w Q hR hQ
        | again c => exact fun C e a w Q hR hQ => LoopFrom.once (ih (.code c :: .again c :: k) .normal σ y h C e a w Q hR hQ)
        | code c =>
          simp only [evS] at h
          split at h
          · obtain ⟨z, h1, h2⟩ := Tree.At_bind.1 h
            intro C e a w Q hR hQ
            show c.wp P (kPost P Q k) a w
            exact evC_ok hT hm hc cf c σ z h1 C e a w _ hR fun e' a' w' hR' => ih k z.1 z.2 y h2 C e' a' w' Q hR' hQ
          · split at h
            · rename_i a b _
              exact fun C e a' w Q hR hQ => wp_seq (ih (.code a :: .code b :: k) .normal σ y h C e a' w Q hR hQ)
            · rename_i id b _
              split at h
              · obtain rfl : _ = y := h
                exact fun C e a w Q hR hQ => hQ e a w hR
              · exact fun C e a w Q hR hQ => wp_block (ih (.code b :: .blk id :: k) .normal σ y h C e a w Q hR hQ)
            · rename_i b _
              exact fun C e a w Q hR hQ => LoopFrom.wp (LoopFrom.once (ih (.code b :: .again b :: k) .normal σ y h C e a w Q hR hQ))
            · rename_i c a b _
              have hev : ∀ {v l : Bool}, evO σ c = some (.one (.b v l)) → ∀ (C : Ctx) (e : Env) (a : Act) (w : World), Rel C N e (look σ) a w → a.eval c = .bool v := fun hv C e a w hR => (sees_of hR (x := c) (fun _ _ => rfl) _ hv).1
              split at h
              · rename_i v hv
                split at h
                · exact fun C e a' w Q hR hQ => wp_cond (hev hv C e a' w hR) (ih (.code a :: k) .normal σ y h C e a' w Q hR hQ)
                · exact fun C e a' w Q hR hQ => wp_cond (hev hv C e a' w hR) (ih (.code b :: k) .normal σ y h C e a' w Q hR hQ)
              · rename_i v hv
                rcases h with ⟨hb, h⟩ | ⟨hb, h⟩
                · intro C e a' w Q hR hQ
                  refine wp_cond (hev hv C e a' w hR) ?_
                  rw [hb]
                  exact ih (.code a :: k) .normal σ y h C e a' w Q hR hQ
                · intro C e a' w Q hR hQ
                  refine wp_cond (hev hv C e a' w hR) ?_
                  rw [hb]
                  exact ih (.code b :: k) .normal σ y h C e a' w Q hR hQ
              · exact h.elim
            · exact h.elim
    | exit i =>
      cases k with
      | nil => obtain rfl : _ = y := h; exact fun C e a w Q hR hQ => hQ e a w hR
      | cons x k =>
        cases x with
        | code c => exact fun C e a w Q hR hQ => ih k (.exit i) σ y h C e a w Q hR hQ
        | again c => exact fun C e a w Q hR hQ => ih k (.exit i) σ y h C e a w Q hR hQ
        | blk id =>
          simp only [evS] at h
          split at h
          · rename_i hb
            intro C e a w Q hR hQ
            show (if i = id then kPost P Q k .normal a w else kPost P Q k (.exit i) a w)
            rw [if_pos (beq_iff'.1 hb)]
            exact ih k .normal σ y h C e a w Q hR hQ
          · rename_i hb
            intro C e a w Q hR hQ
            show (if i = id then kPost P Q k .normal a w else kPost P Q k (.exit i) a w)
            rw [if_neg (beq_ff.1 hb)]
            exact ih k (.exit i) σ y h C e a w Q hR hQ
    | ret =>
      cases k with
      | nil => obtain rfl : _ = y := h; exact fun C e a w Q hR hQ => hQ e a w hR
      | cons x k =>
        cases x with
        | code c => exact fun C e a w Q hR hQ => ih k .ret σ y h C e a w Q hR hQ
        | again c => exact fun C e a w Q hR hQ => ih k .ret σ y h C e a w Q hR hQ
        | blk id => exact fun C e a w Q hR hQ => ih k .ret σ y h C e a w Q hR hQ
theorem evS_every {wf : List FuncId} {call : CallF} {N cf : Nat} {stops : List Nat} : ∀ {n : Nat} {k : List Kt} {o : Out} {σ : St}, (evS tb wf call N cf stops n k o σ).Every fun x => Ext σ x.2
  | 0, _, _, _ => trivial
  | n + 1, k, o, σ => by
    have ih : ∀ {k : List Kt} {o : Out} {σ : St}, (evS tb wf call N cf stops n k o σ).Every fun x => Ext σ x.2 := evS_every (n := n)
    cases o with
    | stop l => trivial
    | normal =>
      cases k with
      | nil => exact Ext.refl σ
      | cons x k =>
        cases x with
        | blk id => exact ih
        | again c => exact ih
        | code c =>
          simp only [evS]
          split
          · exact Tree.Every.bind (evC_every.mono fun x hx => ih.mono fun y hy => hx.trans hy)
          · split
            · exact ih
            · split
              · exact Ext.refl σ
              · exact ih
            · exact ih
            · split
              · split
                · exact ih
                · exact ih
              · exact ⟨ih, ih⟩
              · trivial
            · trivial
    | exit i =>
      cases k with
      | nil => exact Ext.refl σ
      | cons x k =>
        cases x with
        | code c => exact ih
        | again c => exact ih
        | blk id => simp only [evS]; split <;> exact ih
    | ret =>
      cases k with
      | nil => exact Ext.refl σ
      | cons x k => cases x <;> exact ih

/-- A function, from what its code comes to. -/
theorem seg_fun {f : FuncId} {fn : Func} {c : Code} (hT : TbOk P tb) (hf : P.funcs[f]? = some fn) (hb : fn.body = some c) {args : List Sv} {σ σ' : St} {vs : List Nat} {o : Out} {v : Sv} (hle : args.length ≤ fn.ntmps)
    (h : SegD P fn.ntmps (enterSt (withVr σ vs) args) [.code c] .normal (.out o, σ')) (ho : o = .normal ∨ o = .ret) (hx : Ext (enterSt (withVr σ vs) args) σ') (hv : evRes tb σ' fn.results.toList = some v) : FunOk P f args σ v σ' := by
  have hkeep := ext_keep hx
  refine ⟨fun C e w hp ha => ?_, fun id off hk hu => hkeep id off hk hu⟩
  let C' : Ctx := { M := C.M, w0 := C.w0, pin := fun id => if (look σ (.k id)).isSome = true then some (e.pl id) else none, pinn := fun c => if (look σ (.n c)).isSome = true then some (e.nm c) else none }
  have hp' : Hp C' e (look σ) w := ⟨hp.new, hp.cl, hp.ar, hp.oq, hp.cp, hp.inj, hp.lt, hp.mu, ⟨(fun id p hh => by
    simp only [C'] at hh
    split at hh
    · rename_i hk; exact ⟨Option.some.inj hh, hk⟩
    · cases hh), (fun c m hh => by
    simp only [C'] at hh
    split at hh
    · rename_i hk; exact ⟨Option.some.inj hh, hk⟩
    · cases hh)⟩, hp.fr⟩
  have hR := enter_rel (σ := withVr σ vs) (by rw [look_withVr]; exact hp') (by rw [look_withVr]; exact ha) hle
  refine calls_of_wp hf hb ?_
  refine h C' e _ w (bodyPost P fn _) hR fun e' a' w' hR' => ?_
  obtain ⟨r1, r2⟩ := evRes_run hT hR' hv
  have hA : Agree (look σ) e e' := by
    refine ⟨fun id hid => (hR'.hp.pin.1 id (e.pl id) ?_).1, fun c hc => (hR'.hp.pin.2 c (e.nm c) ?_).1⟩
    · exact if_pos hid
    · exact if_pos hc
  have hfin : Hp C e' (look σ') w' := by
    have q := hR'.hp
    refine ⟨q.new, q.cl, q.ar, q.oq, q.cp, q.inj, q.lt, q.mu, ⟨fun id p hh => ?_, fun c m hh => ?_⟩, q.fr⟩
    · obtain ⟨p1, p2⟩ := hp.pin.1 id p hh
      have := q.pin.1 id (e.pl id) (if_pos p2)
      exact ⟨this.1.trans p1, this.2⟩
    · obtain ⟨p1, p2⟩ := hp.pin.2 c m hh
      have := q.pin.2 c (e.nm c) (if_pos p2)
      exact ⟨this.1.trans p1, this.2⟩
  have hend : ∃ v', (results fn a'.tmps).run P w' = .ok v' w' ∧ ∃ e'', Agree (look σ) e e'' ∧ Hp C e'' (look σ') w' ∧ Ending.returned v' = .returned (v.den e'') ∧ v.sc (look σ') :=
    ⟨_, r1, e', hA, hfin, rfl, r2⟩
  rcases ho with ho | ho
  · rw [ho]
    exact ⟨hR'.df, hend⟩
  · rw [ho]
    exact ⟨hR'.df, hend⟩
end
end Sx
end Go.Proofs.YtdelgbdiofkndaaGreatDoor

/-
  Families of states for loops: places that change from round to round, rows that grow.
-/
set_option linter.unusedSimpArgs false
set_option linter.unusedVariables false
namespace Go.Proofs.YtdelgbdiofkndaaGreatDoor
namespace Sx
open Go.RowKit

section
variable {P : Program} {tb : Tb}

/-- What the changing places hold: truth values, numbers; rows: how many elements, how many cells, what they hold. -/
structure FVal where
  b : Nat → Bool
  i : Nat → Int
  n : Nat → Nat
  m : Nat → Nat
  f : Nat → Nat → Value
inductive FamP where
  | t (n : Nat) (l : Lf)
  | c (id off : Nat) (l : Lf)
  | row (t el size id c : Nat)
def FamP.ws (v : FVal) (j : Nat) : FamP → List Wr
  | .t n l => [.tm n (.one (l.cv v.b v.i j))]
  | .c id off l => [.cell id off (l.cv v.b v.i j)]
  | .row sl el size id cn => [.nm cn, .new id (.oq el false (v.m j) (v.f j) (some (cn, size))), .tm sl (.one (.slc id (.lit 0) (.opq (v.n j)) (.nam cn)))]
def famW (v : FVal) : Nat → List FamP → List Wr
  | _, [] => []
  | j, p :: d => p.ws v j ++ famW v (j + 1) d
/-- What an itm says of a place. -/
def FamP.at_ (v : FVal) (j : Nat) : FamP → Loc → Option (Option LV)
  | .t n l, .t n' => if n' = n then some (some (.sv (.one (l.cv v.b v.i j)))) else none
  | .c id off l, .c i o => if i = id ∧ o = off then some (some (.cv (l.cv v.b v.i j))) else none
  | .row sl _ _ id cn, .t n' => if n' = sl then some (some (.sv (.one (.slc id (.lit 0) (.opq (v.n j)) (.nam cn))))) else none
  | .row _ el size id cn, .k i => if i = id then some (some (.bk (.oq el false (v.m j) (v.f j) (some (cn, size))))) else none
  | .row _ _ _ id _, .c i _ => if i = id then some none else none
  | .row _ _ _ _ cn, .n c' => if c' = cn then some (some .nm) else none
  | _, _ => none
theorem FamP.fns_ws (v : FVal) (j : Nat) (p : FamP) (l : Loc) : fns (p.ws v j) l = p.at_ v j l := by
  cases p with
  | t n lf => cases l <;> simp [FamP.ws, fns, Wr.fn, FamP.at_]
  | c id off lf => cases l <;> simp [FamP.ws, fns, Wr.fn, FamP.at_]
  | row t el size id c =>
    cases l with
    | t n' =>
      simp only [FamP.ws, fns, Wr.fn, FamP.at_]
      by_cases e : n' = t
      · simp [e]
      · simp [e]
    | c i o =>
      simp only [FamP.ws, fns, Wr.fn, FamP.at_]
      by_cases e : i = id
      · simp [e, Blk.cell]
      · simp [e]
    | k i => 
      simp only [FamP.ws, fns, Wr.fn, FamP.at_]
      by_cases e : i = id
      · simp [e, Blk.info]
      · simp [e]
    | n c' =>
      simp only [FamP.ws, fns, Wr.fn, FamP.at_]
theorem fns_append (xs ys : List Wr) (l : Loc) : fns (xs ++ ys) l = match fns ys l with
    | some z => some z
    | none => fns xs l := by
  induction xs with
  | nil => simp only [List.nil_append, fns]; cases fns ys l <;> rfl
  | cons x xs ih =>
    simp only [List.cons_append, fns, ih]
    cases fns ys l <;> rfl
theorem fns_fam (v : FVal) (l : Loc) : ∀ (d : List FamP) (j : Nat), (fns (famW v j d) l = none ∧ ∀ p ∈ d, ∀ v' j', p.at_ v' j' l = none) ∨ ∃ (i : Nat) (p : FamP), d[i]? = some p ∧ fns (famW v j d) l = p.at_ v (j + i) l ∧ (p.at_ v (j + i) l).isSome = true
  | [], j => Or.inl ⟨rfl, fun p hp => by cases hp⟩
  | p :: d, j => by
    rcases fns_fam v l d (j + 1) with ⟨h1, h2⟩ | ⟨i, q, h1, h2, h3⟩
    · cases hp : p.at_ v j l with
      | none =>
        refine Or.inl ⟨?_, fun q hq => ?_⟩
        · rw [famW, fns_append, h1, FamP.fns_ws, hp]
        · rcases List.mem_cons.1 hq with rfl | hq
          · intro v' j'
            cases q <;> cases l <;> simp only [FamP.at_] at hp ⊢ <;> split at hp <;> simp_all
          · exact h2 q hq
      | some z =>
        refine Or.inr ⟨0, p, rfl, ?_, by rw [Nat.add_zero, hp]; rfl⟩
        rw [famW, fns_append, h1, FamP.fns_ws, Nat.add_zero]
    · refine Or.inr ⟨i + 1, q, by simpa using h1, ?_, by rw [show j + (i + 1) = j + 1 + i by omega]; exact h3⟩
      rw [show j + (i + 1) = j + 1 + i by omega]
      obtain ⟨z, hz⟩ := Option.isSome_iff_exists.1 h3
      rw [famW, fns_append, h2, hz]
/-- A place of the family. -/
def inF (d : List FamP) (l : Loc) : Prop := ∃ p ∈ d, ∃ v j, (p.at_ v j l).isSome = true
theorem fam_out {v : FVal} {d : List FamP} {s : Sto} {l : Loc} (h : ¬ inF d l) : upds s (famW v 0 d) l = s l := by
  rw [upds_fns]
  rcases fns_fam v l d 0 with ⟨h1, _⟩ | ⟨i, p, h1, h2, h3⟩
  · dsimp only; rw [h1]; rfl
  · exact absurd ⟨p, List.mem_of_getElem? h1, v, _, h3⟩ h
theorem fam_in {v : FVal} {d : List FamP} {s : Sto} {l : Loc} (h : inF d l) : ∃ (i : Nat) (p : FamP) (z : Option LV), d[i]? = some p ∧ p.at_ v i l = some z ∧ upds s (famW v 0 d) l = z := by
  rw [upds_fns]
  rcases fns_fam v l d 0 with ⟨_, h2⟩ | ⟨i, p, h1, h2, h3⟩
  · obtain ⟨p, hp, v', j', h⟩ := h
    rw [h2 p hp v' j'] at h; cases h
  · rw [Nat.zero_add] at h2 h3
    obtain ⟨z, hz⟩ := Option.isSome_iff_exists.1 h3
    exact ⟨i, p, z, h1, hz, by dsimp only; rw [h2, hz]; rfl⟩

/-! What a state says of the family's places. -/
structure RowV where
  id : Nat
  c : Nat
  n : Nat
  m : Nat
  f : Nat → Value
def rowRd (el size : Nat) (y : St) (t : Nat) : Option RowV := match alook y.tm t with
  | some (.one (.slc id (.lit 0) (.opq n) (.nam c))) => match alook y.bk id with
    | some (.oq el' false m f (some (c', size'))) => match Nat.beq el el' && (Nat.beq c c' && Nat.beq size size') with
      | true => some ⟨id, c, n, m, f⟩
      | false => none
    | _ => none
  | some (.one (.slc id (.lit 0) (.lit n) (.nam c))) => match alook y.bk id with
    | some (.ar el' false cs (some (c', size'))) => match Nat.beq el el' && (Nat.beq c c' && (Nat.beq size size' && cs.all Cv.freeB)) with
      | true => some ⟨id, c, n, cs.length, fun o => ((cs[o]?).map (·.den env0)).getD undef⟩
      | false => none
    | _ => none
  | _ => none
def scRd (y : St) : FamP → Option Cv
  | .t n _ => match alook y.tm n with
    | some (.one z) => some z
    | _ => none
  | .c id off _ => (alook y.bk id).bind fun b => b.cell off
  | .row _ _ _ _ _ => none
def rwOf (y : St) : FamP → Option RowV
  | .row t el size _ _ => rowRd el size y t
  | _ => none
def rvB (d : List FamP) (y : St) (j : Nat) : Bool := (((d[j]?).bind (scRd y)).map cvB).getD false
def rvI (d : List FamP) (y : St) (j : Nat) : Int := (((d[j]?).bind (scRd y)).map cvI).getD 0
def rvR (d : List FamP) (y : St) (j : Nat) : Option RowV := (d[j]?).bind (rwOf y)
def cutF (m : Nat) (f : Nat → Value) (o : Nat) : Value := bif Nat.blt o m then f o else undef
def rvV (d : List FamP) (y : St) : FVal where
  b := rvB d y
  i := rvI d y
  n := fun j => ((rvR d y j).map (·.n)).getD 0
  m := fun j => ((rvR d y j).map (·.m)).getD 0
  f := fun j => ((rvR d y j).map fun r => cutF r.m r.f).getD fun _ => undef
/-- The blocks and the capacities' names of the rows: in the family, in the state. -/
def rIds : List FamP → List Nat
  | [] => []
  | .row _ _ _ id _ :: d => id :: rIds d
  | _ :: d => rIds d
def rCs : List FamP → List Nat
  | [] => []
  | .row _ _ _ _ c :: d => c :: rCs d
  | _ :: d => rCs d
def yIds (y : St) : List FamP → List Nat
  | [] => []
  | .row t el size _ _ :: d => ((rowRd el size y t).map (·.id)).getD 0 :: yIds y d
  | _ :: d => yIds y d
def renI (y : St) : List FamP → Nat → Nat
  | [], i => i
  | .row t el size id _ :: d, i => match Nat.beq id i with
    | true => ((rowRd el size y t).map (·.id)).getD 0
    | false => renI y d i
  | _ :: d, i => renI y d i
def renC (y : St) : List FamP → Nat → Nat
  | [], i => i
  | .row t el size _ c :: d, i => match Nat.beq c i with
    | true => ((rowRd el size y t).map (·.c)).getD 0
    | false => renC y d i
  | _ :: d, i => renC y d i
def renE (y : St) (d : List FamP) (e : Env) : Env := ⟨fun i => e.pl (renI y d i), fun c => e.nm (renC y d c)⟩
def distinct : List Nat → Bool
  | [] => true
  | x :: l => !memb l x && distinct l
def okFamP (σ y : St) : FamP → Bool
  | .t n l => match scRd y (.t n l) with
    | some z => l.fits z
    | none => false
  | .c id off l => (match scRd y (.c id off l) with
    | some z => l.fits z
    | none => false) && match alook σ.bk id with
    | some (.ar _ _ cs _) => Nat.blt off cs.length
    | _ => false
  | .row t el size id c => (rowRd el size y t).isSome && ((alook σ.bk id).isNone && !memb σ.nl c)
def okF (d : List FamP) (σ y : St) : Bool := d.all (okFamP σ y) && (distinct (rIds d) && (distinct (rCs d) && (distinct (yIds y d) && (yIds y d).all fun i => (alook σ.bk i).isNone)))

theorem renI_out {y : St} {i : Nat} : ∀ {d : List FamP}, i ∉ rIds d → renI y d i = i
  | [], _ => rfl
  | .t _ _ :: d, h => renI_out (d := d) h
  | .c _ _ _ :: d, h => renI_out (d := d) h
  | .row t el size id c :: d, h => by
    simp only [rIds, List.mem_cons, not_or] at h
    simp only [renI, beq_ff.2 (Ne.symm h.1)]
    exact renI_out h.2
theorem renC_out {y : St} {i : Nat} : ∀ {d : List FamP}, i ∉ rCs d → renC y d i = i
  | [], _ => rfl
  | .t _ _ :: d, h => renC_out (d := d) h
  | .c _ _ _ :: d, h => renC_out (d := d) h
  | .row t el size id c :: d, h => by
    simp only [rCs, List.mem_cons, not_or] at h
    simp only [renC, beq_ff.2 (Ne.symm h.1)]
    exact renC_out h.2
theorem mem_rIds {t el size id c : Nat} : ∀ {d : List FamP}, FamP.row t el size id c ∈ d → id ∈ rIds d ∧ c ∈ rCs d
  | [], h => by cases h
  | p :: d, h => by
    rcases List.mem_cons.1 h with rfl | h
    · exact ⟨List.mem_cons_self, List.mem_cons_self⟩
    · obtain ⟨h1, h2⟩ := mem_rIds h
      cases p with
      | row => exact ⟨List.mem_cons_of_mem _ h1, List.mem_cons_of_mem _ h2⟩
      | _ => exact ⟨h1, h2⟩
theorem renI_row {y : St} {t el size id c : Nat} : ∀ {d : List FamP}, distinct (rIds d) = true → FamP.row t el size id c ∈ d → renI y d id = ((rowRd el size y t).map (·.id)).getD 0
  | [], _, h => by cases h
  | .t _ _ :: d, hd, h => by
    rcases List.mem_cons.1 h with h | h
    · cases h
    · exact renI_row (d := d) hd h
  | .c _ _ _ :: d, hd, h => by
    rcases List.mem_cons.1 h with h | h
    · cases h
    · exact renI_row (d := d) hd h
  | .row t' el' size' id' c' :: d, hd, h => by
    simp only [rIds, distinct, Bool.and_eq_true, Bool.not_eq_true'] at hd
    rcases List.mem_cons.1 h with h | h
    · cases h
      simp only [renI, Nat.beq_refl]
    · have hne : id' ≠ id := by
        intro e
        have := memb_iff.2 (mem_rIds h).1
        rw [← e, hd.1] at this; cases this
      simp only [renI, beq_ff.2 hne]
      exact renI_row hd.2 h
theorem renC_row {y : St} {t el size id c : Nat} : ∀ {d : List FamP}, distinct (rCs d) = true → FamP.row t el size id c ∈ d → renC y d c = ((rowRd el size y t).map (·.c)).getD 0
  | [], _, h => by cases h
  | .t _ _ :: d, hd, h => by
    rcases List.mem_cons.1 h with h | h
    · cases h
    · exact renC_row (d := d) hd h
  | .c _ _ _ :: d, hd, h => by
    rcases List.mem_cons.1 h with h | h
    · cases h
    · exact renC_row (d := d) hd h
  | .row t' el' size' id' c' :: d, hd, h => by
    simp only [rCs, distinct, Bool.and_eq_true, Bool.not_eq_true'] at hd
    rcases List.mem_cons.1 h with h | h
    · cases h
      simp only [renC, Nat.beq_refl]
    · have hne : c' ≠ c := by
        intro e
        have := memb_iff.2 (mem_rIds h).2
        rw [← e, hd.1] at this; cases this
      simp only [renC, beq_ff.2 hne]
      exact renC_row hd.2 h
theorem mem_yIds {y : St} {t el size id c : Nat} : ∀ {d : List FamP}, FamP.row t el size id c ∈ d → ((rowRd el size y t).map (·.id)).getD 0 ∈ yIds y d
  | [], h => by cases h
  | p :: d, h => by
    rcases List.mem_cons.1 h with rfl | h2
    · exact List.mem_cons_self
    · cases p with
      | row => exact List.mem_cons_of_mem _ (mem_yIds h2)
      | _ => exact mem_yIds (d := d) h2
theorem rId_row {i : Nat} : ∀ {d : List FamP}, i ∈ rIds d → ∃ t el size c, FamP.row t el size i c ∈ d
  | [], h => by cases h
  | .t _ _ :: d, h => by obtain ⟨t, el, s, c, h⟩ := rId_row (d := d) h; exact ⟨t, el, s, c, List.mem_cons_of_mem _ h⟩
  | .c _ _ _ :: d, h => by obtain ⟨t, el, s, c, h⟩ := rId_row (d := d) h; exact ⟨t, el, s, c, List.mem_cons_of_mem _ h⟩
  | .row t el size id c :: d, h => by
    rcases List.mem_cons.1 (show i ∈ id :: rIds d from h) with rfl | h
    · exact ⟨t, el, size, c, List.mem_cons_self⟩
    · obtain ⟨t, el, s, c, h⟩ := rId_row h; exact ⟨t, el, s, c, List.mem_cons_of_mem _ h⟩
/-- Two rows of the family never stand for one block. -/
theorem renI_inj {y : St} {i i' : Nat} : ∀ {d : List FamP}, distinct (yIds y d) = true → i ∈ rIds d → i' ∈ rIds d → distinct (rIds d) = true → renI y d i = renI y d i' → i = i'
  | [], _, h, _, _, _ => by cases h
  | .t _ _ :: d, hy, h, h', hd, he => renI_inj (d := d) hy h h' hd he
  | .c _ _ _ :: d, hy, h, h', hd, he => renI_inj (d := d) hy h h' hd he
  | .row t el size id c :: d, hy, h, h', hd, he => by
    have hd0 := hd
    simp only [rIds, distinct, Bool.and_eq_true, Bool.not_eq_true'] at hd
    simp only [yIds, distinct, Bool.and_eq_true, Bool.not_eq_true'] at hy
    have other : ∀ {k : Nat}, k ∈ rIds d → k ≠ id → renI y (.row t el size id c :: d) k = renI y d k ∧ renI y d k ∈ yIds y d := by
      intro k hk hne
      refine ⟨by simp only [renI, beq_ff.2 (Ne.symm hne)], ?_⟩
      obtain ⟨t', el', s', c', hm⟩ := rId_row hk
      rw [renI_row hd.2 hm]
      exact mem_yIds hm
    have self : renI y (.row t el size id c :: d) id = ((rowRd el size y t).map (·.id)).getD 0 := by simp only [renI, Nat.beq_refl]
    have hne : ∀ {k : Nat}, k ∈ rIds d → k ≠ id := by
      intro k hk e
      have := memb_iff.2 hk
      rw [e, hd.1] at this; cases this
    rcases List.mem_cons.1 (show i ∈ id :: rIds d from h) with rfl | g
    · rcases List.mem_cons.1 (show i' ∈ i :: rIds d from h') with rfl | h'
      · rfl
      · exfalso
        obtain ⟨o1, o2⟩ := other h' (hne h')
        rw [self, o1] at he
        have := memb_iff.2 o2
        rw [← he, hy.1] at this; cases this
    · rcases List.mem_cons.1 (show i' ∈ id :: rIds d from h') with rfl | g'
      · exfalso
        obtain ⟨o1, o2⟩ := other g (hne g)
        rw [self, o1] at he
        have := memb_iff.2 o2
        rw [he, hy.1] at this; cases this
      · rw [(other g (hne g)).1, (other g' (hne g')).1] at he
        exact renI_inj hy.2 g g' hd.2 he

/-- What a row that is read is. -/
theorem rowRd_at {el size t : Nat} {y : St} {r : RowV} (h : rowRd el size y t = some r) : ∃ v, look y (.t t) = some (.sv v) ∧ (∀ e, v.den e = .slice (some (e.ad r.id 0)) r.n (e.nm r.c)) ∧
    ∃ b, look y (.k r.id) = some (.bk b) ∧ b.rw = true ∧ b.live = true ∧ b.t = el ∧ b.n = r.m ∧ b.cp = some (r.c, size) ∧
      ((∃ f, b = .oq el false r.m f (some (r.c, size)) ∧ r.f = f) ∨ (∃ cs : List Cv, b = .ar el false cs.length (some (r.c, size)) ∧ (∀ o c, cs[o]? = some c → look y (.c r.id o) = some (.cv c) ∧ c.freeB = true) ∧ cs.length = r.m ∧ r.f = fun o => ((cs[o]?).map (·.den env0)).getD undef)) := by
  unfold rowRd at h
  split at h
  · rename_i id n c ht
    split at h
    · rename_i el' m f c' size' hb
      split at h
      · rename_i hc
        simp only [Bool.and_eq_true, beq_iff'] at hc
        obtain ⟨rfl, rfl, rfl⟩ := hc
        obtain rfl := Option.some.inj h
        refine ⟨_, by simp only [look, ht]; rfl, fun e => rfl, .oq el false m f (some (c, size)), by simp only [look, hb]; rfl, rfl, rfl, rfl, rfl, rfl, Or.inl ⟨f, rfl, rfl⟩⟩
      · cases h
    · cases h
  · rename_i id n c ht
    split at h
    · rename_i el' cs c' size' hb
      split at h
      · rename_i hc
        simp only [Bool.and_eq_true, beq_iff'] at hc
        obtain ⟨rfl, rfl, rfl, hfree⟩ := hc
        obtain rfl := Option.some.inj h
        refine ⟨_, by simp only [look, ht]; rfl, fun e => rfl, .ar el false cs.length (some (c, size)), by simp only [look, hb]; rfl, rfl, rfl, rfl, rfl, rfl, Or.inr ⟨cs, rfl, fun o c' hc' => ⟨?_, List.all_eq_true.1 hfree _ (List.mem_of_getElem? hc')⟩, rfl, rfl⟩⟩
        simp only [look, hb, Option.bind_some, Blk.cell, hc', Option.map_some]
      · cases h
    · cases h
  · cases h

/-- What is known of the base is known of the state, but for the family's places. -/
def KeepsF (d : List FamP) (σ y : St) : Prop := ∀ l v, look σ l = some v → ¬ inF d l → v ≠ .bk .gone → look y l = some v
theorem inF_k {d : List FamP} {i : Nat} : inF d (.k i) ↔ i ∈ rIds d := by
  constructor
  · rintro ⟨p, hp, v, j, h⟩
    cases p with
    | t n l => cases h
    | c id off l => cases h
    | row t el size id c =>
      simp only [FamP.at_] at h
      split at h
      · rename_i e; subst e; exact (mem_rIds hp).1
      · cases h
  · intro h
    obtain ⟨t, el, size, c, hm⟩ := rId_row h
    exact ⟨_, hm, ⟨fun _ => false, fun _ => 0, fun _ => 0, fun _ => 0, fun _ _ => undef⟩, 0, by simp [FamP.at_]⟩
theorem inF_n {d : List FamP} {i : Nat} (h : inF d (.n i)) : i ∈ rCs d := by
  obtain ⟨p, hp, v, j, h⟩ := h
  cases p with
  | t n l => cases h
  | c id off l => cases h
  | row t el size id c =>
    simp only [FamP.at_] at h
    split at h
    · rename_i e; subst e; exact (mem_rIds hp).2
    · cases h
set_option maxHeartbeats 1000000 in
theorem fam_rel {C : Ctx} {N : Nat} {e : Env} {a : Act} {w : World} {d : List FamP} {σ y : St} (hws : WS (look σ)) (hkeep : KeepsF d σ y) (ok : okF d σ y = true) (hpin : (∀ id p, C.pin id = some p → kn (look σ) id) ∧ ∀ c m, C.pinn c = some m → knn (look σ) c)
    (hR : Rel C N e (look y) a w) : Rel C N (renE y d e) (upds (look σ) (famW (rvV d y) 0 d)) a w := by
  generalize hT : upds (look σ) (famW (rvV d y) 0 d) = T
  unfold okF at ok
  simp only [Bool.and_eq_true] at ok
  obtain ⟨o1, o2, o3, o4, o5⟩ := ok
  have itm : ∀ {i p}, d[i]? = some p → okFamP σ y p = true := fun h => List.all_eq_true.1 o1 _ (List.mem_of_getElem? h)
  have rowI : ∀ {t el size id c}, FamP.row t el size id c ∈ d → (∃ r, rowRd el size y t = some r ∧ renI y d id = r.id ∧ renC y d c = r.c ∧ alook σ.bk r.id = none) ∧ alook σ.bk id = none ∧ memb σ.nl c = false := by
    intro t el size id c hm
    have h := List.all_eq_true.1 o1 _ hm
    simp only [okFamP, Bool.and_eq_true, Bool.not_eq_true'] at h
    obtain ⟨h1, h2, h3⟩ := h
    obtain ⟨r, hr⟩ := Option.isSome_iff_exists.1 h1
    refine ⟨⟨r, hr, by rw [renI_row o2 hm, hr]; rfl, by rw [renC_row o3 hm, hr]; rfl, ?_⟩, by simpa using h2, h3⟩
    have := List.all_eq_true.1 o5 _ (mem_yIds (y := y) hm)
    rw [hr] at this
    simpa using this
  -- names of the base are not the family's
  have kI : ∀ {i}, kn (look σ) i → i ∉ rIds d := by
    intro i hk hm
    obtain ⟨t, el, s, c, h⟩ := rId_row hm
    have := (rowI h).2.1
    rw [kn_look, this] at hk; cases hk
  have kC : ∀ {c}, knn (look σ) c → c ∉ rCs d := by
    intro c hk hm
    have : ∀ {d' : List FamP}, c ∈ rCs d' → ∃ t el size id, FamP.row t el size id c ∈ d' := by
      intro d'
      induction d' with
      | nil => intro h; cases h
      | cons p d' ih =>
        intro h
        cases p with
        | t n l => obtain ⟨t, el, s, i, h⟩ := ih h; exact ⟨t, el, s, i, List.mem_cons_of_mem _ h⟩
        | c id off l => obtain ⟨t, el, s, i, h⟩ := ih h; exact ⟨t, el, s, i, List.mem_cons_of_mem _ h⟩
        | row t el size id c' =>
          rcases List.mem_cons.1 (show c ∈ c' :: rCs d' from h) with rfl | h
          · exact ⟨t, el, size, id, List.mem_cons_self⟩
          · obtain ⟨t, el, s, i, h⟩ := ih h; exact ⟨t, el, s, i, List.mem_cons_of_mem _ h⟩
    obtain ⟨t, el, s, i, h⟩ := this hm
    have := (rowI h).2.2
    unfold knn at hk
    simp only [look, this] at hk
    cases hk
  have hA : Agree (look σ) e (renE y d e) := ⟨fun i hk => by show e.pl (renI y d i) = _; rw [renI_out (kI hk)], fun c hk => by show e.nm (renC y d c) = _; rw [renC_out (kC hk)]⟩
  have Tk : ∀ {i}, kn (look σ) i → T (.k i) = look σ (.k i) := fun hk => by rw [← hT]; exact fam_out fun h => kI hk (inF_k.1 h)
  have hS : Sub (look σ) T := by
    refine ⟨fun i hk => by unfold kn; rw [Tk hk]; exact hk, fun c hk => ?_⟩
    unfold knn
    rw [← hT, fam_out fun h => kC hk (inF_n h)]; exact hk
  have adk : ∀ {i off}, kn (look σ) i → (renE y d e).ad i off = e.ad i off := fun hk => hA.ad hk
  -- the blocks of the family's states
  have blkT : ∀ {i b}, T (.k i) = some (.bk b) → b.live = true → (look σ (.k i) = some (.bk b) ∧ look y (.k i) = some (.bk b) ∧ renI y d i = i ∧ kn (look σ) i) ∨
      ∃ (j t el size c : Nat) (r : RowV), d[j]? = some (FamP.row t el size i c) ∧ rowRd el size y t = some r ∧ b = .oq el false r.m (cutF r.m r.f) (some (c, size)) ∧ renI y d i = r.id ∧ renC y d c = r.c ∧ alook σ.bk r.id = none := by
    intro i b hb hl
    by_cases h : inF d (.k i)
    · obtain ⟨j, p, z, h1, h2, h3⟩ := fam_in (v := rvV d y) (s := look σ) h
      rw [hT] at h3
      cases p with
      | t n l => cases h2
      | c id off l => cases h2
      | row t el size id c =>
        simp only [FamP.at_] at h2
        split at h2
        · rename_i e1
          subst e1
          obtain rfl := Option.some.inj h2
          rw [h3] at hb
          obtain ⟨⟨r, hr, q1, q2, q3⟩, _⟩ := rowI (List.mem_of_getElem? h1)
          refine Or.inr ⟨j, t, el, size, c, r, h1, hr, ?_, q1, q2, q3⟩
          have hrow : rvR d y j = some r := by simp only [rvR, h1, Option.bind_some, rwOf, hr]
          have hm : (rvV d y).m j = r.m := by simp only [rvV, hrow, Option.map_some, Option.getD_some]
          have hf : (rvV d y).f j = cutF r.m r.f := by simp only [rvV, hrow, Option.map_some, Option.getD_some]
          rw [hm, hf] at hb
          simpa using hb.symm
        · cases h2
    · have h3 : T (.k i) = look σ (.k i) := by rw [← hT]; exact fam_out h
      rw [h3] at hb
      refine Or.inl ⟨hb, hkeep _ _ hb h (fun e1 => by cases e1; cases hl), renI_out fun hm => h (inF_k.2 hm), ?_⟩
      unfold kn; rw [hb]; rfl
  -- each stands for one of the state's
  have blkY : ∀ {i b}, T (.k i) = some (.bk b) → b.live = true → ∃ b1, look y (.k (renI y d i)) = some (.bk b1) ∧ b1.rw = b.rw ∧ b1.live = true ∧ b1.t = b.t ∧ b1.n = b.n := by
    intro i b hb hl
    rcases blkT hb hl with ⟨_, h2, h3, _⟩ | ⟨j, t, el, size, c, r, _, hr, rfl, h3, _, _⟩
    · rw [h3]; exact ⟨b, h2, rfl, hl, rfl, rfl⟩
    · obtain ⟨_, _, _, b1, k1, k2, k3, k4, k5, _, _⟩ := rowRd_at hr
      rw [h3]
      exact ⟨b1, k1, k2, k3, k4, k5⟩
  have rl : ∀ b : BI, b.rw = true → b.live = true := fun b hb => by cases b <;> first | rfl | cases hb
  have rrd : ∀ {j t el size id c : Nat} {r : RowV}, d[j]? = some (FamP.row t el size id c) → rowRd el size y t = some r → (rvV d y).n j = r.n := by
    intro j t el size id c r h1 hr
    have hrow : rvR d y j = some r := by simp only [rvR, h1, Option.bind_some, rwOf, hr]
    simp only [rvV, hrow, Option.map_some, Option.getD_some]
  have scal : ∀ {j : Nat} {p : FamP} {z : Cv} {l : Lf}, d[j]? = some p → scRd y p = some z → l.fits z = true → (∀ e' : Env, (l.cv (rvV d y).b (rvV d y).i j).den e' = z.den e') := by
    intro j p z l h1 h2 h3 e'
    refine fits_den h3 ?_ ?_ e'
    · simp only [rvV, rvB, h1, Option.bind_some, h2, Option.map_some, Option.getD_some]
    · simp only [rvV, rvI, h1, Option.bind_some, h2, Option.map_some, Option.getD_some]
  refine ⟨hR.sz, hR.df, ?_, ⟨hR.hp.new, ?_, ?_, ?_, ?_, ?_, ?_, ?_, ?_, hR.hp.fr⟩⟩
  · intro t v hv
    by_cases h : inF d (.t t)
    · obtain ⟨j, p, z, h1, h2, h3⟩ := fam_in (v := rvV d y) (s := look σ) h
      rw [hT] at h3
      have hok := itm h1
      cases p with
      | t n l =>
        simp only [FamP.at_] at h2
        split at h2
        · rename_i e1
          subst e1
          obtain rfl := Option.some.inj h2
          rw [h3] at hv
          obtain rfl : Sv.one _ = v := by simpa using hv
          simp only [okFamP] at hok
          split at hok
          · rename_i z hz
            have hl : look y (.t t) = some (.sv (.one z)) := by
              simp only [scRd] at hz
              split at hz
              · rename_i z' hz'
                obtain rfl := Option.some.inj hz
                simp only [look, hz']; rfl
              · cases hz
            obtain ⟨q1, q2, _⟩ := hR.tm t _ hl
            exact ⟨q1, q2.trans ((scal h1 hz hok _).symm.trans (by cases l <;> rfl)), l.cv_sc _ _ _ _⟩
          · cases hok
        · cases h2
      | c id off l => cases h2
      | row t' el size id c =>
        simp only [FamP.at_] at h2
        split at h2
        · rename_i e1
          subst e1
          obtain rfl := Option.some.inj h2
          rw [h3] at hv
          obtain ⟨⟨r, hr, q1, q2, _⟩, _⟩ := rowI (List.mem_of_getElem? h1)
          obtain ⟨v1, k1, k2, b1, k3, _⟩ := rowRd_at hr
          obtain ⟨p1, p2, _⟩ := hR.tm t _ k1
          obtain rfl : Sv.one (.slc id (.lit 0) (.opq ((rvV d y).n j)) (.nam c)) = v := by simpa using hv
          refine ⟨p1, p2.trans ?_, ?_, trivial, trivial, ?_⟩
          · rw [k2, rrd h1 hr]
            simp only [Sv.den, Cv.den, Sn.den, renE, Env.ad, q1, q2]
          · have : inF d (.k id) := inF_k.2 (mem_rIds (List.mem_of_getElem? h1)).1
            obtain ⟨j', p', z', g1, g2, g3⟩ := fam_in (v := rvV d y) (s := look σ) this
            unfold kn
            rw [← hT, g3]
            cases p' with
            | t n l => cases g2
            | c id off l => cases g2
            | row => simp only [FamP.at_] at g2; split at g2 <;> first | (obtain rfl := Option.some.inj g2; rfl) | cases g2
          · have : inF d (.n c) := ⟨_, List.mem_of_getElem? h1, rvV d y, 0, by simp [FamP.at_]⟩
            obtain ⟨j', p', z', g1, g2, g3⟩ := fam_in (v := rvV d y) (s := look σ) this
            show knn T c
            unfold knn
            rw [← hT, g3]
            cases p' with
            | t n l => cases g2
            | c id off l => cases g2
            | row => simp only [FamP.at_] at g2; split at g2 <;> first | (obtain rfl := Option.some.inj g2; rfl) | cases g2
        · cases h2
    · have h3 : T (.t t) = look σ (.t t) := by rw [← hT]; exact fam_out h
      rw [h3] at hv
      obtain ⟨q1, q2, _⟩ := hR.tm t v (hkeep _ _ hv h (by simp))
      have hsc := hws.tm t v hv
      exact ⟨q1, q2.trans (Sv.den_agree hA hsc).symm, hsc.sub hS⟩
  · intro id off v hv
    by_cases h : inF d (.c id off)
    · obtain ⟨j, p, z, h1, h2, h3⟩ := fam_in (v := rvV d y) (s := look σ) h
      rw [hT] at h3
      have hok := itm h1
      cases p with
      | t n l => cases h2
      | c id' off' l =>
        simp only [FamP.at_] at h2
        split at h2
        · rename_i e1
          obtain ⟨rfl, rfl⟩ := e1
          obtain rfl := Option.some.inj h2
          rw [h3] at hv
          obtain rfl : l.cv (rvV d y).b (rvV d y).i j = v := by simpa using hv
          simp only [okFamP, Bool.and_eq_true] at hok
          obtain ⟨ok1, ok2⟩ := hok
          split at ok1
          · rename_i z hz
            split at ok2
            · rename_i t0 ro0 cs0 cp0 hb0
              have hl : look y (.c id off) = some (.cv z) := by
                simp only [scRd] at hz
                obtain ⟨b, hb, hc⟩ := Option.bind_eq_some_iff.1 hz
                simp only [look, hb, Option.bind_some, hc, Option.map_some]
              obtain ⟨_, _, q3⟩ := hR.hp.cl id off z hl
              have hk : kn (look σ) id := by rw [kn_look, hb0]; rfl
              refine ⟨l.cv_sc _ _ _ _, ⟨t0, ro0, cs0.length, cp0, by rw [Tk hk]; simp only [look, hb0]; rfl, blt_iff.1 ok2⟩, ?_⟩
              rw [adk hk, q3, ← scal h1 hz ok1 e]
              cases l <;> rfl
            · cases ok2
          · cases ok1
        · cases h2
      | row t el size id' c =>
        simp only [FamP.at_] at h2
        split at h2
        · obtain rfl := Option.some.inj h2
          rw [h3] at hv; cases hv
        · cases h2
    · have h3 : T (.c id off) = look σ (.c id off) := by rw [← hT]; exact fam_out h
      rw [h3] at hv
      obtain ⟨_, _, q3⟩ := hR.hp.cl id off v (hkeep _ _ hv h (by simp))
      obtain ⟨s1, t0, ro0, n0, cp0, s2, s3⟩ := hws.cl id off v hv
      have hk : kn (look σ) id := by unfold kn; rw [s2]; rfl
      refine ⟨s1.sub hS, ⟨t0, ro0, n0, cp0, by rw [Tk hk]; exact s2, s3⟩, ?_⟩
      rw [adk hk, q3, Cv.den_agree hA s1]
  · intro i t n cp hb off ho
    rcases blkT hb rfl with ⟨_, h2, h3, h4⟩ | ⟨j, t, el, size, c, r, _, hr, h, _⟩
    · rw [adk h4]; exact hR.hp.ar i t n cp h2 off ho
    · cases h
  · intro i t ro n f cp hb off ho
    rcases blkT hb rfl with ⟨_, h2, h3, h4⟩ | ⟨j, t', el, size, c, r, _, hr, h, h3, _⟩
    · rw [adk h4]; exact hR.hp.oq i t ro n f cp h2 off ho
    · cases h
      have had : (renE y d e).ad i off = e.ad r.id off := by unfold Env.ad renE; simp only [h3]
      rw [had]
      have hcut : cutF r.m r.f off = r.f off := by unfold cutF; rw [blt_iff.2 ho]; rfl
      rw [hcut]
      obtain ⟨_, _, _, b1, k1, _, _, _, _, _, k7⟩ := rowRd_at hr
      rcases k7 with ⟨f, rfl, hf⟩ | ⟨cs, rfl, hcs, hlen, hf⟩
      · rw [hf]; exact ⟨(hR.hp.oq _ _ _ _ _ _ k1 off ho).1, fun _ => (hR.hp.oq _ _ _ _ _ _ k1 off ho).2 rfl⟩
      · have hlt : off < cs.length := by omega
        obtain ⟨z1, z2⟩ := hcs off _ (List.getElem?_eq_getElem hlt)
        refine ⟨?_, fun _ => (hR.hp.ar _ _ _ _ k1 off hlt).1⟩
        rw [(hR.hp.cl _ _ _ z1).2.2, hf]
        simp only [List.getElem?_eq_getElem hlt, Option.map_some, Option.getD_some]
        exact congrArg some (Sv.free_den (v := .one (cs[off])) z2 env0 e)
  · intro i b c es hb hc
    have hl : b.live = true := by cases b <;> first | rfl | cases hc
    rcases blkT hb hl with ⟨h1, h2, h3, h4⟩ | ⟨j, t', el, size, c', r, hj, hr, rfl, h3, h5, _⟩
    · obtain ⟨_, q2, cs, q3, q4, q5⟩ := hR.hp.cp i b c es h2 hc
      have hkc := hws.cp i b c es h1 hc
      refine ⟨hS.2 c hkc, by rw [hA.1 i h4]; exact q2, cs, by rw [hA.1 i h4]; exact q3, by rw [hA.2 c hkc]; exact q4, q5⟩
    · obtain ⟨rfl, rfl⟩ := Prod.mk.inj (Option.some.inj hc)
      obtain ⟨_, _, _, b1, k1, _, _, k4, k5, k6, _⟩ := rowRd_at hr
      obtain ⟨_, q2, cs, q3, q4, q5⟩ := hR.hp.cp _ _ _ _ k1 k6
      have hpl : (renE y d e).pl i = e.pl r.id := by show e.pl (renI y d i) = _; rw [h3]
      have hnm : (renE y d e).nm c' = e.nm r.c := by show e.nm (renC y d c') = _; rw [h5]
      refine ⟨?_, by rw [hpl]; exact q2, cs, by rw [hpl, q3, k4]; rfl, by rw [hnm]; exact q4, by show r.m ≤ cs.size; rw [← k5]; exact q5⟩
      have : inF d (.n c') := ⟨_, List.mem_of_getElem? hj, rvV d y, 0, by simp [FamP.at_]⟩
      obtain ⟨j', p', z', g1, g2, g3⟩ := fam_in (v := rvV d y) (s := look σ) this
      unfold knn
      rw [← hT, g3]
      cases p' with
      | t n l => cases g2
      | c id off l => cases g2
      | row => simp only [FamP.at_] at g2; split at g2 <;> first | (obtain rfl := Option.some.inj g2; rfl) | cases g2
  · intro i i' b b' hi hi' hr hl hne
    obtain ⟨b1, k1, k2, k3, _⟩ := blkY hi (rl b hr)
    obtain ⟨b2, m1, m2, m3, _⟩ := blkY hi' hl
    refine hR.hp.inj _ _ b1 b2 k1 m1 (k2.trans hr) m3 fun he => hne ?_
    rcases blkT hi (rl b hr) with ⟨h1, h2, h3, h4⟩ | ⟨j, t', el, size, c', r, hj, hrr, hbb, h3, h5, h6⟩
    · rcases blkT hi' hl with ⟨g1, g2, g3, g4⟩ | ⟨j2, t2, el2, size2, c2, r2, gj, grr, gbb, g3, g5, g6⟩
      · rw [h3, g3] at he; exact he
      · rw [h3, g3] at he
        rw [kn_look, he, g6] at h4; cases h4
    · rcases blkT hi' hl with ⟨g1, g2, g3, g4⟩ | ⟨j2, t2, el2, size2, c2, r2, gj, grr, gbb, g3, g5, g6⟩
      · rw [h3, g3] at he
        rw [kn_look, ← he, h6] at g4; cases g4
      · exact renI_inj o4 (mem_rIds (List.mem_of_getElem? hj)).1 (mem_rIds (List.mem_of_getElem? gj)).1 o2 he
  · intro i b hi hl
    obtain ⟨b1, k1, _, k3, _⟩ := blkY hi hl
    exact hR.hp.lt _ b1 k1 k3
  · intro i b hi hr
    obtain ⟨b1, k1, k2, _, _⟩ := blkY hi (rl b hr)
    exact hR.hp.mu _ b1 k1 (k2.trans hr)
  · refine ⟨fun id p hp => ?_, fun c m hm => ?_⟩
    · have hk := hpin.1 id p hp
      exact ⟨(hA.1 id hk).trans (hR.hp.pin.1 id p hp).1, hS.1 id hk⟩
    · have hk := hpin.2 c m hm
      exact ⟨(hA.2 c hk).trans (hR.hp.pin.2 c m hm).1, hS.2 c hk⟩
end
end Sx
end Go.Proofs.YtdelgbdiofkndaaGreatDoor

/-
  Loops: from the head of a loop to what stands behind it.
-/
set_option linter.unusedSimpArgs false
set_option linter.unusedVariables false
namespace Go.Proofs.YtdelgbdiofkndaaGreatDoor
namespace Sx
open Go.RowKit

section
variable {P : Program} {tb : Tb}
def isFgt : Wr → Bool
  | .ft _ => true
  | .new _ .gone => true
  | _ => false
theorem Rel.ft {C : Ctx} {N : Nat} {e : Env} {s : Sto} {a : Act} {w : World} (h : Rel C N e s a w) (n : Nat) : Rel C N e ((Wr.ft n).upd s) a w := by
  have hs : ∀ l, (∀ t, l ≠ .t t) → (Wr.ft n).upd s l = s l := fun l hl => by
    cases l with
    | t m => exact absurd rfl (hl m)
    | _ => rfl
  have hS : Sub s ((Wr.ft n).upd s) := ⟨fun _ h => h, fun _ h => h⟩
  refine ⟨h.sz, h.df, fun t v ht => ?_, h.hp.congr hs⟩
  by_cases e1 : t = n
  · subst e1; simp [Wr.upd, Wr.fn] at ht
  · simp only [Wr.upd, Wr.fn, if_neg e1, Option.getD_none] at ht
    obtain ⟨h1, h2, h3⟩ := h.tm t v ht
    exact ⟨h1, h2, h3.sub hS⟩
theorem fgt_rel {C : Ctx} {N : Nat} {e : Env} {a : Act} {w : World} : ∀ {fw : List Wr} {σ0 σ : St}, fw.all isFgt = true → σ0.apps fw = some σ → Rel C N e (look σ0) a w → Rel C N e (look σ) a w
  | [], σ0, σ, _, h, hR => by obtain rfl := Option.some.inj h; exact hR
  | x :: fw, σ0, σ, hf, h, hR => by
    simp only [List.all_cons, Bool.and_eq_true] at hf
    simp only [St.apps] at h
    split at h
    · rename_i hw
      refine fgt_rel hf.2 h ?_
      rw [look_app hw]
      cases x with
      | ft n => exact hR.ft n
      | new id b =>
        cases b with
        | gone => exact hR.agree (fun t => rfl) Sub.new (Agree.refl _ _) (hR.hp.gone id)
        | _ => cases hf.1
      | _ => cases hf.1
    · cases h
theorem fgt_keep : ∀ {fw : List Wr} {σ0 σ : St}, fw.all isFgt = true → σ0.apps fw = some σ → ∀ l v, look σ l = some v → v ≠ .bk .gone → look σ0 l = some v
  | [], σ0, σ, _, h, l, v, hv, _ => by obtain rfl := Option.some.inj h; exact hv
  | x :: fw, σ0, σ, hf, h, l, v, hv, hg => by
    simp only [List.all_cons, Bool.and_eq_true] at hf
    simp only [St.apps] at h
    split at h
    · rename_i hw
      have h1 := fgt_keep hf.2 h l v hv hg
      rw [look_app hw] at h1
      cases x with
      | ft n =>
        simp only [Wr.upd, Wr.fn] at h1
        cases l with
        | t m =>
          simp only [Wr.fn] at h1
          split at h1
          · cases h1
          · exact h1
        | _ => exact h1
      | new id b =>
        cases b with
        | gone =>
          cases l with
          | k i =>
            rw [gone_k] at h1
            split at h1
            · exact absurd (Option.some.inj h1).symm hg
            · exact h1
          | c i o =>
            rw [gone_c] at h1
            split at h1
            · cases h1
            · exact h1
          | _ => exact h1
        | _ => cases hf.1
      | _ => cases hf.1
    · cases h
def domT (d : List FamP) (n : Nat) : Bool := d.any fun p => match p with
  | .t m _ => Nat.beq m n
  | .row m _ _ _ _ => Nat.beq m n
  | _ => false
def domC (d : List FamP) (id off : Nat) : Bool := d.any fun p => match p with
  | .c i o _ => Nat.beq i id && Nat.beq o off
  | _ => false
def sameCv : Cv → Cv → Bool
  | .ptr i (.lit o), .ptr i' (.lit o') => Nat.beq i i' && Nat.beq o o'
  | _, _ => false
theorem sameCv_eq {c v : Cv} (h : sameCv c v = true) : v = c := by
  unfold sameCv at h
  split at h
  · simp only [Bool.and_eq_true] at h
    obtain rfl := beq_iff'.1 h.1
    obtain rfl := beq_iff'.1 h.2
    rfl
  · cases h
def sameAt (σ : St) (id off : Nat) (v : Cv) : Bool := match (alook σ.bk id).bind fun b => b.cell off with
  | some c => sameCv c v
  | none => false
theorem fns_mem {l : Loc} {z : Option LV} : ∀ {ws : List Wr}, fns ws l = some z → ∃ x ∈ ws, x.fn l = some z
  | [], h => by cases h
  | x :: ws, h => by
    simp only [fns] at h
    split at h
    · rename_i y hy
      obtain rfl := Option.some.inj h
      obtain ⟨x', h1, h2⟩ := fns_mem hy
      exact ⟨x', List.mem_cons_of_mem _ h1, h2⟩
    · exact ⟨x, List.mem_cons_self, h⟩
/-- A write that keeps what else is known. -/
def okWf (d : List FamP) (σ : St) : Wr → Bool
  | .tm n _ => domT d n || (alook σ.tm n).isNone
  | .ft n => domT d n || (alook σ.tm n).isNone
  | .cell id off v => (domC d id off || (alook σ.bk id).isNone) || sameAt σ id off v
  | .new id _ => (alook σ.bk id).isNone
  | .nm c => !memb σ.nl c
theorem domT_in {d : List FamP} {n : Nat} (h : domT d n = true) : inF d (.t n) := by
  obtain ⟨p, hp, h2⟩ := List.any_eq_true.1 h
  cases p with
  | t m l => obtain rfl := beq_iff'.1 h2; exact ⟨_, hp, ⟨fun _ => false, fun _ => 0, fun _ => 0, fun _ => 0, fun _ _ => undef⟩, 0, by simp [FamP.at_]⟩
  | c i o l => cases h2
  | row m _ _ _ _ => obtain rfl := beq_iff'.1 h2; exact ⟨_, hp, ⟨fun _ => false, fun _ => 0, fun _ => 0, fun _ => 0, fun _ _ => undef⟩, 0, by simp [FamP.at_]⟩
theorem domC_in {d : List FamP} {id off : Nat} (h : domC d id off = true) : inF d (.c id off) := by
  obtain ⟨p, hp, h2⟩ := List.any_eq_true.1 h
  cases p with
  | t m l => cases h2
  | c i o l =>
    simp only [Bool.and_eq_true] at h2
    obtain rfl := beq_iff'.1 h2.1
    obtain rfl := beq_iff'.1 h2.2
    exact ⟨_, hp, ⟨fun _ => false, fun _ => 0, fun _ => 0, fun _ => 0, fun _ _ => undef⟩, 0, by simp [FamP.at_]⟩
  | row m _ _ _ _ => cases h2
theorem keep_round {d : List FamP} {σ I y : St} {v : FVal} (hI : σ.apps (famW v 0 d) = some I) (hx : Ext I y) (ok : (newL I y).all (okWf d σ) = true) : KeepsF d σ y := by
  intro l z hz hd _
  obtain ⟨ws, hw, hl⟩ := newL_ext hx
  rw [look_apps hw, upds_fns]
  have hno : fns ws l = none ∨ fns ws l = some (some z) := by
    cases hf : fns ws l with
    | none => exact Or.inl rfl
    | some q =>
      obtain ⟨x, hx1, hx2⟩ := fns_mem hf
      have hok := List.all_eq_true.1 ok x (by rw [hl]; exact List.mem_reverse.2 hx1)
      have nT : ∀ {m}, l = .t m → domT d m = false := fun {m} e => by
        cases hc : domT d m with
        | false => rfl
        | true => exact absurd (e ▸ domT_in hc) hd
      have nC : ∀ {i o}, l = .c i o → domC d i o = false := fun {i o} e => by
        cases hc : domC d i o with
        | false => rfl
        | true => exact absurd (e ▸ domC_in hc) hd
      cases x with
      | tm n v' =>
        cases l with
        | t m =>
          obtain rfl : m = n := by simp only [Wr.fn] at hx2; split at hx2; assumption; cases hx2
          simp only [okWf, nT rfl, Bool.false_or, Option.isNone_iff_eq_none] at hok
          simp only [look, hok] at hz; cases hz
        | _ => cases hx2
      | ft n =>
        cases l with
        | t m =>
          obtain rfl : m = n := by simp only [Wr.fn] at hx2; split at hx2; assumption; cases hx2
          simp only [okWf, nT rfl, Bool.false_or, Option.isNone_iff_eq_none] at hok
          simp only [look, hok] at hz; cases hz
        | _ => cases hx2
      | cell id off v' =>
        cases l with
        | c i o =>
          obtain ⟨rfl, rfl⟩ : i = id ∧ o = off := by simp only [Wr.fn] at hx2; split at hx2; assumption; cases hx2
          simp only [okWf, nC rfl, Bool.false_or, Bool.or_eq_true, Option.isNone_iff_eq_none] at hok
          rcases hok with hok | hok
          · simp only [look, hok] at hz; cases hz
          · right
            unfold sameAt at hok
            simp only [look] at hz
            cases hb : alook σ.bk i with
            | none => rw [hb] at hz; cases hz
            | some b =>
              rw [hb] at hok hz
              simp only [Option.bind_some] at hok hz
              cases hcc : b.cell o with
              | none => rw [hcc] at hz; cases hz
              | some c =>
                rw [hcc] at hok hz
                obtain rfl := sameCv_eq hok
                simp only [Wr.fn, and_self, if_true] at hx2
                rw [← hx2, ← hz]; rfl
        | _ => cases hx2
      | new id b =>
        simp only [okWf, Option.isNone_iff_eq_none] at hok
        cases l with
        | k i =>
          obtain rfl : i = id := by simp only [Wr.fn] at hx2; split at hx2; assumption; cases hx2
          simp only [look, hok] at hz; cases hz
        | c i o =>
          obtain rfl : i = id := by simp only [Wr.fn] at hx2; split at hx2; assumption; cases hx2
          simp only [look, hok] at hz; cases hz
        | _ => cases hx2
      | nm c =>
        cases l with
        | n d' =>
          obtain rfl : d' = c := by simp only [Wr.fn] at hx2; split at hx2; assumption; cases hx2
          simp only [okWf, Bool.not_eq_true'] at hok
          simp only [look, hok] at hz; cases hz
        | _ => cases hx2
  dsimp only
  rcases hno with hno | hno
  · rw [hno, Option.getD_none, look_apps hI, fam_out hd, hz]
  · rw [hno]; rfl

/-- From the stack k and the state σ to one end. -/
structure SegOk (P : Program) (N : Nat) (σ : St) (k : List Kt) (o : Out) (x : SLeaf) : Prop where
  run : ∀ (C : Ctx) (e : Env) (a : Act) (w : World) (Q : Exit → Act → World → Prop), Rel C N e (look σ) a w → (∀ e' a' w', Rel C N e' (look x.2) a' w' → FPost P Q x.1 a' w') → Post P (fun o => kPost P Q k o) o a w
/-- From the stack k and the state σ to one of several ends. -/
structure SegTo (P : Program) (N : Nat) (σ : St) (k : List Kt) (o : Out) (Ψ : SLeaf → Prop) : Prop where
  run : ∀ (C : Ctx) (e : Env) (a : Act) (w : World) (Q : Exit → Act → World → Prop), Rel C N e (look σ) a w → (∀ y, Ψ y → ∀ e' a' w', Rel C N e' (look y.2) a' w' → FPost P Q y.1 a' w') → Post P (fun o => kPost P Q k o) o a w
theorem SegOk.to {N : Nat} {σ : St} {k : List Kt} {o : Out} {x : SLeaf} {Ψ : SLeaf → Prop} (h : SegOk P N σ k o x) (hx : Ψ x) : SegTo P N σ k o Ψ := ⟨fun C e a w Q hR hQ => h.run C e a w Q hR (hQ x hx)⟩
theorem SegOk.then_ {N : Nat} {σ σ' : St} {k k' : List Kt} {o : Out} {x : SLeaf} {Φ : SLeaf → Prop} (h : SegOk P N σ k o x) (hx : x = (.wait k', σ')) (h2 : SegTo P N σ' k' .normal Φ) : SegTo P N σ k o Φ := by
  subst hx
  exact ⟨fun C e a w Q hR hQ => h.run C e a w Q hR fun e' a' w' hR' => h2.run C e' a' w' Q hR' hQ⟩
theorem SegTo.each {N : Nat} {σ : St} {k rest : List Kt} {o : Out} {I : FVal → St} {F : FVal → Prop} {Φ : SLeaf → Prop} (h : SegTo P N σ k o fun y => ∃ v, F v ∧ y = (.wait rest, I v)) (h2 : ∀ v, F v → SegTo P N (I v) rest .normal Φ) : SegTo P N σ k o Φ :=
  ⟨fun C e a w Q hR hQ => h.run C e a w Q hR fun y hy e' a' w' hR' => by
    obtain ⟨v, hv, rfl⟩ := hy
    exact (h2 v hv).run C e' a' w' Q hR' hQ⟩
/-- THE LOOP. -/
theorem loop_to {N k : Nat} {body : Code} {rest : List Kt} (d : List FamP) {σ0 σ : St} {fw : List Wr} (hf : fw.all isFgt = true) (hσ : σ0.apps fw = some σ) (I : FVal → St) (hI : ∀ v, σ.apps (famW v 0 d) = some (I v)) (ok0 : okF d σ σ0 = true)
    (inv F : FVal → Prop) (μ : FVal → Nat) (h0 : inv (rvV d σ0))
    (hstep : ∀ v, inv v → ∃ o y, SegOk P N (I v) [.code body] .normal (.out o, y) ∧ Ext (I v) y ∧ okF d σ y = true ∧ (newL (I v) y).all (okWf d σ) = true ∧ ((o = .normal ∧ inv (rvV d y) ∧ μ (rvV d y) < μ v) ∨ (o = .exit k ∧ F (rvV d y)))) :
    SegTo P N σ0 (.again body :: .blk k :: rest) .normal (fun y => ∃ v, F v ∧ y = (.wait rest, I v)) := by
  refine ⟨fun C e a w Q hR hQ => ?_⟩
  have hRσ := fgt_rel hf hσ hR
  have hws := hRσ.ws
  have hpin : (∀ id p, C.pin id = some p → kn (look σ) id) ∧ ∀ c m, C.pinn c = some m → knn (look σ) c := ⟨fun id p h => (hRσ.hp.pin.1 id p h).2, fun c m h => (hRσ.hp.pin.2 c m h).2⟩
  have key : ∀ n v, inv v → μ v < n → ∀ e a w, Rel C N e (look (I v)) a w → LoopFrom P body (kPost P Q (.blk k :: rest)) a w := by
    intro n
    induction n with
    | zero => intro v _ h; omega
    | succ n ih =>
      intro v hi hμ e a w hR
      obtain ⟨o, y, h1, h2, h3, h4, h5⟩ := hstep v hi
      refine LoopFrom.once (h1.run C e a w (Exit.then (LoopFrom P body (kPost P Q (.blk k :: rest))) (kPost P Q (.blk k :: rest))) hR fun e' a' w' hR' => ?_)
      have hr := fam_rel hws (keep_round (hI v) h2 h4) h3 hpin hR'
      rcases h5 with ⟨rfl, k1, k2⟩ | ⟨rfl, k1⟩
      · exact ih _ k1 (by omega) _ _ _ (by rw [look_apps (hI _)]; exact hr)
      · show (if k = k then kPost P Q rest .normal a' w' else _)
        rw [if_pos rfl]
        exact hQ _ ⟨_, k1, rfl⟩ _ _ _ (by rw [look_apps (hI _)]; exact hr)
  have hr := fam_rel hws (fun l v hv _ hg => fgt_keep hf hσ l v hv hg) ok0 hpin hR
  exact key _ _ h0 (Nat.lt_succ_self _) _ _ _ (by rw [look_apps (hI _)]; exact hr)
/-- The loop, and what stands behind it. -/
theorem loop_then {N k : Nat} {body : Code} {rest : List Kt} {Φ : SLeaf → Prop} (d : List FamP) {σ : St} (I : FVal → St) (hI : ∀ v, σ.apps (famW v 0 d) = some (I v)) (ok0 : okF d σ σ = true)
    (inv F : FVal → Prop) (μ : FVal → Nat) (h0 : inv (rvV d σ))
    (hstep : ∀ v, inv v → ∃ o y, SegOk P N (I v) [.code body] .normal (.out o, y) ∧ Ext (I v) y ∧ okF d σ y = true ∧ (newL (I v) y).all (okWf d σ) = true ∧ ((o = .normal ∧ inv (rvV d y) ∧ μ (rvV d y) < μ v) ∨ (o = .exit k ∧ F (rvV d y))))
    (htail : ∀ v, F v → SegTo P N (I v) rest .normal Φ) : SegTo P N σ (.again body :: .blk k :: rest) .normal Φ :=
  (loop_to d (fw := []) rfl rfl I hI ok0 inv F μ h0 hstep).each htail
theorem seg_block {N k : Nat} {σ : St} {body : Code} {rest : List Kt} {Ψ : SLeaf → Prop} (h : SegTo P N σ (.again body :: .blk k :: rest) .normal Ψ) : SegTo P N σ (.code (.block k (.loop body)) :: rest) .normal Ψ :=
  ⟨fun C e a w Q hR hQ => wp_block (LoopFrom.wp (h.run C e a w Q hR hQ))⟩
theorem seg_peel {N : Nat} {σ σ1 : St} {body : Code} {K : List Kt} {Ψ : SLeaf → Prop} (h : SegOk P N σ [.code body] .normal (.out .normal, σ1)) (h2 : SegTo P N σ1 (.again body :: K) .normal Ψ) : SegTo P N σ (.again body :: K) .normal Ψ :=
  ⟨fun C e a w Q hR hQ => LoopFrom.once (h.run C e a w (Exit.then (LoopFrom P body (kPost P Q K)) (kPost P Q K)) hR fun e' a' w' hR' => h2.run C e' a' w' Q hR' hQ)⟩
theorem seg_out {N k : Nat} {σ σ1 : St} {body : Code} {rest : List Kt} (h : SegOk P N σ [.code body] .normal (.out (.exit k), σ1)) : SegOk P N σ (.again body :: .blk k :: rest) .normal (.wait rest, σ1) :=
  ⟨fun C e a w Q hR hQ => LoopFrom.once (h.run C e a w (Exit.then (LoopFrom P body (kPost P Q (.blk k :: rest))) (kPost P Q (.blk k :: rest))) hR fun e' a' w' hR' => by
    show (if k = k then kPost P Q rest .normal a' w' else _)
    rw [if_pos rfl]
    exact hQ e' a' w' hR')⟩
/-- A way, under cover: nothing looks into it by itself. -/
structure AtG {α : Type} (T : Tree α) (x : α) : Prop where
  out : T.At x
theorem seg_evC {wf : List FuncId} {call : CallF} (hT : TbOk P tb) (hm : P.follows .mixedOrders = true) (hc : CallFOk P call) {N fuel : Nat} {c : Code} {σ : St} {y : Leaf} {T : Tree Leaf} (hE : T = evC tb wf call N [] fuel c σ) (hA : AtG T y) : SegOk P N σ [.code c] .normal (.out y.1, y.2) ∧ Ext σ y.2 := by
  have h : (evC tb wf call N [] fuel c σ).At y := hE ▸ hA.out
  exact ⟨⟨fun C e a w Q hR hQ => evC_ok hT hm hc fuel c σ y h C e a w Q hR hQ⟩, evC_every.at_ h⟩
theorem seg_evS {wf : List FuncId} {call : CallF} (hT : TbOk P tb) (hm : P.follows .mixedOrders = true) (hc : CallFOk P call) {N cf fuel : Nat} {stops : List Nat} {k : List Kt} {o : Out} {σ : St} {y : SLeaf} {T : Tree SLeaf} (hE : T = evS tb wf call N cf stops fuel k o σ) (hA : AtG T y) : SegOk P N σ k o y ∧ Ext σ y.2 := by
  have h : (evS tb wf call N cf stops fuel k o σ).At y := hE ▸ hA.out
  exact ⟨⟨evS_ok hT hm hc fuel k o σ y h⟩, evS_every.at_ h⟩

/-! One way of a tree: the tests along it, and its end. -/
def selW {α : Type} : List Bool → Tree α → Option (List Bool × α)
  | p, .must b t => (selW p t).map fun r => (b :: r.1, r.2)
  | true :: p, .br b t _ => (selW p t).map fun r => (b :: r.1, r.2)
  | false :: p, .br b _ f => (selW p f).map fun r => ((!b) :: r.1, r.2)
  | [], .leaf x => some ([], x)
  | _, _ => none
theorem selW_at {α : Type} : ∀ {T : Tree α} {p : List Bool} {cs : List Bool} {x : α}, selW p T = some (cs, x) → (∀ c ∈ cs, c = true) → T.At x
  | .must b t, p, cs, x, h, hc => by
    have h' : (selW p t).map (fun r => (b :: r.1, r.2)) = some (cs, x) := by cases p with
      | nil => exact h
      | cons q p => cases q <;> exact h
    obtain ⟨r, hr, he⟩ := Option.map_eq_some_iff.1 h'
    obtain ⟨l, z⟩ := r
    obtain ⟨rfl, rfl⟩ := Prod.mk.inj he
    exact ⟨hc _ List.mem_cons_self, selW_at hr fun c h => hc c (List.mem_cons_of_mem _ h)⟩
  | .br b t f, p, cs, x, h, hc => by
    cases p with
    | nil => cases h
    | cons q p =>
      cases q with
      | true =>
        obtain ⟨r, hr, he⟩ := Option.map_eq_some_iff.1 (show (selW p t).map (fun r => (b :: r.1, r.2)) = some (cs, x) from h)
        obtain ⟨l, z⟩ := r
        obtain ⟨rfl, rfl⟩ := Prod.mk.inj he
        exact Or.inl ⟨hc _ List.mem_cons_self, selW_at hr fun c h => hc c (List.mem_cons_of_mem _ h)⟩
      | false =>
        obtain ⟨r, hr, he⟩ := Option.map_eq_some_iff.1 (show (selW p f).map (fun r => ((!b) :: r.1, r.2)) = some (cs, x) from h)
        obtain ⟨l, z⟩ := r
        obtain ⟨rfl, rfl⟩ := Prod.mk.inj he
        exact Or.inr ⟨by have := hc _ List.mem_cons_self; simpa using this, selW_at hr fun c h => hc c (List.mem_cons_of_mem _ h)⟩
  | .leaf y, p, cs, x, h, hc => by
    cases p with
    | nil => obtain ⟨_, rfl⟩ := Prod.mk.inj (Option.some.inj h); rfl
    | cons q p => cases q <;> cases h
  | .fail, p, cs, x, h, hc => by
    cases p with
    | nil => cases h
    | cons q p => cases q <;> cases h
theorem selW_G {α : Type} {T : Tree α} {p : List Bool} {cs : List Bool} {x : α} (h : selW p T = some (cs, x)) (hc : ∀ c ∈ cs, c = true) : AtG T x := ⟨selW_at h hc⟩
/-- A loop that is stopped at: its body, its number, what stands behind it. -/
structure Stp where
  body : Code
  k : Nat
  rest : List Kt
  st : St
def stpOf : SLeaf → Option Stp
  | (.wait (.code (.block k (.loop b)) :: rest), σ) => some ⟨b, k, rest, σ⟩
  | _ => none
theorem stpOf_at {x : SLeaf} {s : Stp} (h : stpOf x = some s) : x = (.wait (.code (.block s.k (.loop s.body)) :: s.rest), s.st) := by
  unfold stpOf at h
  split at h
  · obtain rfl := Option.some.inj h; rfl
  · cases h
/-- A way of a round that goes on, or out. -/
def wayR (d : List FamP) (σ I : St) (o : Out) (T : Tree Leaf) (p : List Bool) : Option (List Bool × St) := match selW p T with
  | some (cs, (o', y)) => match outEq o o' && (okF d σ y && (newL I y).all (okWf d σ)) with
    | true => some (cs, y)
    | false => none
  | none => none
theorem wayR_at {d : List FamP} {σ I y : St} {o : Out} {T : Tree Leaf} {p cs : List Bool} (h : wayR d σ I o T p = some (cs, y)) : ((∀ c ∈ cs, c = true) → AtG T (o, y)) ∧ okF d σ y = true ∧ (newL I y).all (okWf d σ) = true := by
  unfold wayR at h
  split at h
  · rename_i cs' o' y' hs
    split at h
    · rename_i hb
      simp only [Bool.and_eq_true] at hb
      obtain ⟨h1, h2, h3⟩ := hb
      obtain rfl := outEq_eq h1
      obtain ⟨rfl, rfl⟩ := Prod.mk.inj (Option.some.inj h)
      exact ⟨fun hc => ⟨selW_at hs hc⟩, h2, h3⟩
    · cases h
  · cases h
/-- A law, from what its code comes to. -/
theorem seg_true {f : FuncId} {fn : Func} {c : Code} (hT : TbOk P tb) (hf : P.funcs[f]? = some fn) (hb : fn.body = some c) {args : List Sv} {σ : St} {vs : List Nat} (hle : args.length ≤ fn.ntmps)
    (h : SegTo P fn.ntmps (enterSt (withVr σ vs) args) [.code c] .normal fun y => (y.1 = .out .normal ∨ y.1 = .out .ret) ∧ ∃ l, evRes tb y.2 fn.results.toList = some (.one (.b true l)))
    {e : Env} {w : World} (hp : Hp (ctx0 w) e (look σ) w) (ha : ∀ x ∈ args, x.sc (look σ)) : Calls P f (args.map (·.den e)).toArray w fun en w' => en = .returned (.bool true) ∧ Below w.heap.size w w' := by
  have hR := enter_rel (σ := withVr σ vs) (by rw [look_withVr]; exact hp) (by rw [look_withVr]; exact ha) hle
  refine calls_of_wp hf hb ?_
  refine h.run (ctx0 w) e _ w (bodyPost P fn _) hR fun y hy e' a' w' hR' => ?_
  obtain ⟨ho, l, hv⟩ := hy
  obtain ⟨r1, _⟩ := evRes_run hT hR' hv
  have hB : Below w.heap.size w w' := ⟨hR'.hp.fr.os, hR'.hp.fr.tape, hR'.hp.fr.output, hR'.hp.fr.size, fun k hk => hR'.hp.fr.block k hk (by show ¬ w.heap.size ≤ k; omega)⟩
  have hend : ∃ v', (results fn a'.tmps).run P w' = .ok v' w' ∧ Ending.returned v' = .returned (.bool true) ∧ Below w.heap.size w w' := ⟨_, r1, rfl, hB⟩
  obtain ⟨f', σ'⟩ := y
  rcases ho with ho | ho
  · simp only at ho; subst ho
    exact ⟨hR'.df, hend⟩
  · simp only at ho; subst ho
    exact ⟨hR'.df, hend⟩
/-- A row that a caller hands over: it is only read. -/
def stO (T m : Nat) (f : Nat → Value) : St := { st0 with bk := [(0, .oq T true m f none)], nx := 1 }
def envO (a : Addr) : Env := ⟨fun _ => (a.block, a.off), fun _ => 0⟩
theorem hpO {w : World} {a : Addr} {T m : Nat} {f : Nat → Value} (hb : a.block < w.heap.size) (hc : ∀ off, off < m → w.cell? ⟨a.block, a.off + off, none⟩ = some (f off)) (hG : Glob0 w := by exact glob0 w) : Hp (ctx0 w) (envO a) (look (stO T m f)) w := by
  have k0 : ∀ i b, look (stO T m f) (.k i) = some (.bk b) → i = 0 ∧ b = .oq T true m f none := by
    intro i b h
    simp only [look, stO, alook] at h
    cases hi : Nat.beq 0 i with
    | true =>
      rw [hi] at h
      exact ⟨(beq_iff'.1 hi).symm, by simpa [Blk.info] using h.symm⟩
    | false => rw [hi] at h; cases h
  refine ⟨fun _ h => h, ?_, ?_, ?_, ?_, ?_, ?_, ?_, ⟨fun _ _ h => (by cases h), fun _ _ h => (by cases h)⟩, ⟨rfl, rfl, rfl, Nat.le_refl _, fun _ _ _ => rfl, hG⟩⟩
  · intro id off v h
    simp only [look, stO, alook] at h
    cases hi : Nat.beq 0 id with
    | true => rw [hi] at h; cases h
    | false => rw [hi] at h; cases h
  · intro id t n cp h; obtain ⟨_, h⟩ := k0 _ _ h; cases h
  · intro id t ro n g cp h off ho
    obtain ⟨rfl, h⟩ := k0 _ _ h
    cases h
    exact ⟨hc off ho, fun h => by cases h⟩
  · intro id b c es h hcp; obtain ⟨_, rfl⟩ := k0 _ _ h; cases hcp
  · intro i i' b b' h _ hr; obtain ⟨_, rfl⟩ := k0 _ _ h; cases hr
  · intro i b h _; exact hb
  · intro i b h hr; obtain ⟨_, rfl⟩ := k0 _ _ h; cases hr
theorem rvV_i (d : List FamP) (y : St) (j : Nat) : (rvV d y).i j = rvI d y j := rfl
theorem rvV_b (d : List FamP) (y : St) (j : Nat) : (rvV d y).b j = rvB d y j := rfl
theorem apps_nil (σ : St) : σ.apps [] = some σ := rfl
theorem famW_same {v v' : FVal} : ∀ {d : List FamP} {j : Nat}, (∀ (i : Nat) (p : FamP), d[i]? = some p → p.ws v (j + i) = p.ws v' (j + i)) → famW v j d = famW v' j d
  | [], _, _ => rfl
  | p :: d, j, h => by
    have h0 := h 0 p rfl
    rw [Nat.add_zero] at h0
    have h1 := famW_same (v := v) (v' := v') (d := d) (j := j + 1) fun i q hq => by
      have := h (i + 1) q (by simpa using hq)
      rwa [show j + (i + 1) = j + 1 + i by omega] at this
    rw [famW, famW, h0, h1]
end
end Sx
end Go.Proofs.YtdelgbdiofkndaaGreatDoor

/-
  A slice that is handed over: its cells.
-/
set_option linter.unusedSimpArgs false
set_option linter.unusedVariables false
namespace Go.Proofs.YtdelgbdiofkndaaGreatDoor
namespace Sx
open Go.RowKit

section
variable {P : Program} {tb : Tb} {H : Type} {enc : TypeId × Value → H} {w : World} {base : Nat} {spare : Nat → Bool} {held : Bool}
theorem cell_in {a : Addr} {v : Value} (h : w.cell? a = some v) : a.block < w.heap.size := by
  rcases Nat.lt_or_ge a.block w.heap.size with h1 | h1
  · exact h1
  · simp [World.cell?, Array.getElem?_eq_none h1] at h
/-- The cells of element j. -/
def elAt (f : Nat → Value) (sz j : Nat) : List Value := (List.range sz).map fun o => f (j * sz + o)
theorem open_rows (hT : TbOk P tb) {t te : TypeId} {i : TypeInfo} {ls : List Lf} {x : DataW H × List MemPlace} {v : Value} (ht : tb.und t = some (.slice te)) (hi : tb.info te = some i) (hl : leaves tb 20 te = some ls) (hsz : 0 < i.size) {n : Nat} (h : DataW.trod enc P w base spare held n t [v] = some x) :
    (∃ a c, v = .slice a 0 c) ∨ ∃ (b off len cap : Nat) (f : Nat → Value), v = .slice (some ⟨b, off, none⟩) len cap ∧ 0 < len ∧ len ≤ maxLen ∧ b < w.heap.size ∧ (∀ k, k < len * i.size → w.cell? ⟨b, off + k, none⟩ = some (f k)) ∧ ∀ j, j < len → All2 Lf.ok ls (elAt f i.size j) := by
  rcases Go.Deep.open_slice (hT.und ht) h with ⟨hcs, _⟩ | ⟨a, len, cap, m, n', D, Pl, hcs, hb, hle, hm, hmm, hx, hc⟩
  · simp only [List.cons.injEq, and_true] at hcs
    exact Or.inl ⟨none, 0, hcs⟩
  · simp only [List.cons.injEq, and_true] at hcs
    rcases Nat.eq_zero_or_pos len with h0 | h0
    · subst h0; exact Or.inl ⟨some a, cap, hcs⟩
    right
    have hlm : len ≤ m := by rw [hmm]; split <;> omega
    rw [cellsOf_info hT hi] at hc
    have each : ∀ j, j < len → ∃ cs', cs'.length = i.size ∧ (∀ o, o < i.size → w.cell? (a.add (j * i.size + o)) = cs'[o]?) ∧ All2 Lf.ok ls cs' := by
      intro j hj
      obtain ⟨cs', h1, h2⟩ := hc j (by omega)
      obtain ⟨_, q1, q2⟩ := World.cells?_some h1
      refine ⟨cs', q1, fun o ho => ?_, leaves_ok hT 20 te ls cs' n' _ hl h2⟩
      have := q2 o ho
      rwa [Go.Deep.add_add] at this
    have all : ∀ k, k < len * i.size → ∃ v, w.cell? (a.add k) = some v := by
      intro k hk
      obtain ⟨cs', q1, q2, _⟩ := each (k / i.size) (Nat.div_lt_of_lt_mul (by rw [Nat.mul_comm]; exact hk))
      have hmod : k % i.size < i.size := Nat.mod_lt _ hsz
      have := q2 (k % i.size) hmod
      rw [show k / i.size * i.size + k % i.size = k by rw [Nat.mul_comm]; exact Nat.div_add_mod k i.size] at this
      rw [this]
      exact ⟨_, List.getElem?_eq_getElem (by omega)⟩
    obtain ⟨v0, hv0⟩ := all 0 (Nat.mul_pos h0 hsz)
    obtain ⟨b, off, spot⟩ := a
    have hspot : spot = none := by simpa [Addr.add] using World.cell?_spot hv0
    subst hspot
    have hadd : ∀ j, ((⟨b, off, none⟩ : Addr).add j) = ⟨b, off + j, none⟩ := fun j => by
      unfold Addr.add
      by_cases e : j = 0
      · subst e; simp
      · simp [e]
    refine ⟨b, off, len, cap, fun k => (w.cell? ⟨b, off + k, none⟩).getD undef, hcs, h0, by omega, ?_, fun k hk => ?_, fun j hj => ?_⟩
    · rw [hadd] at hv0; exact cell_in hv0
    · obtain ⟨v, hv⟩ := all k hk
      rw [hadd] at hv
      show _ = some ((w.cell? ⟨b, off + k, none⟩).getD undef)
      rw [hv]; rfl
    · obtain ⟨cs', q1, q2, q3⟩ := each j hj
      have : elAt (fun k => (w.cell? ⟨b, off + k, none⟩).getD undef) i.size j = cs' := by
        apply List.ext_getElem?
        intro o
        unfold elAt
        by_cases ho : o < i.size
        · rw [List.getElem?_map, List.getElem?_range ho]
          have h2 := q2 o ho
          rw [hadd] at h2
          rw [Option.map_some]
          show some ((w.cell? ⟨b, off + (j * i.size + o), none⟩).getD undef) = _
          rw [h2, List.getElem?_eq_getElem (by omega)]
          rfl
        · rw [List.getElem?_eq_none (by simp; omega), List.getElem?_eq_none (by omega)]
      rw [this]; exact q3
theorem all2_isV : ∀ {ls : List Lf} {cs : List Value}, All2 Lf.ok ls cs → ∀ o, o < ls.length → (lfAt ls o).isV (cs.getD o undef) = true
  | _, _, .nil, o, h => by simp at h
  | l :: ls, c :: cs, .cons hc h, o, ho => by
    cases o with
    | zero =>
      show l.isV c = true
      cases l with
      | b => obtain ⟨b, rfl⟩ := hc; rfl
      | i k => obtain ⟨n, rfl, _⟩ := hc; simp [Lf.isV]
    | succ o =>
      have := all2_isV h o (by simpa using ho)
      simpa [lfAt] using this
/-- What is demanded where an element is read. -/
theorem rows_isV {f : Nat → Value} {ls : List Lf} {sz j : Nat} (h : All2 Lf.ok ls (elAt f sz j)) (hsz : ls.length = sz) : ((List.range sz).all fun o => (lfAt ls o).isV (f (0 + j * sz + o))) = true := by
  rw [List.all_eq_true]
  intro o ho
  have ho' : o < sz := List.mem_range.1 ho
  have := all2_isV h o (by omega)
  unfold elAt at this
  rw [List.getD_eq_getElem?_getD, List.getElem?_map, List.getElem?_range ho'] at this
  rw [Nat.zero_add]
  simpa using this
end
end Sx
end Go.Proofs.YtdelgbdiofkndaaGreatDoor

/-
  What is known of a function, carried into a caller's state: from facts about memory; a new row that is only read; a block with cells that nobody looks at.
-/
set_option linter.unusedSimpArgs false
set_option linter.unusedVariables false
namespace Go.Proofs.YtdelgbdiofkndaaGreatDoor
namespace Sx
open Go.RowKit

section
variable {P : Program} {tb : Tb}
/-- A function that hands back a value and leaves alone what was there, by what the state says of memory. -/
theorem FunOk.of_w {f : FuncId} {args : List Sv} {v : Sv} {σ : St} (hv : v.freeB = true) (h : ∀ (C : Ctx) (e : Env) (w : World), Hp C e (look σ) w → (∀ x ∈ args, x.sc (look σ)) → Calls P f (args.map (·.den e)).toArray w fun en w' => en = .returned (v.den e) ∧ Below w.heap.size w w') : FunOk P f args σ v σ := by
  refine ⟨fun C e w hp ha => ?_, KeepL.refl _⟩
  refine (h C e w hp ha).mono fun en w' => ?_
  rintro ⟨rfl, hb⟩
  exact ⟨e, Agree.refl _ _, hp.keep hb, rfl, Sv.free_sc hv _⟩
/-- A state that knows one more row, which is only read, and one more number. -/
def addOq (σ : St) (t : TypeId) (m : Nat) (f : Nat → Value) : St := { σ with bk := (σ.nx, .oq t true m f none) :: σ.bk, nx := σ.nx + 1, nl := σ.nn :: σ.nl, nn := σ.nn + 1 }
theorem addOq_agree {σ : St} {e : Env} {p : Nat × Nat} {m : Nat} (h1 : alook σ.bk σ.nx = none) (h2 : memb σ.nl σ.nn = false) : Agree (look σ) e (addEnv σ e p m) := addRo_agree h1 h2
theorem addOq_sub (σ : St) (t : TypeId) (m : Nat) (f : Nat → Value) : Sub (look σ) (look (addOq σ t m f)) := by
  refine ⟨fun id hid => ?_, fun c hc => ?_⟩
  · rw [kn_look] at hid ⊢
    simp only [addOq, alook]
    split
    · rfl
    · exact hid
  · rw [knn_look] at hc ⊢
    simp only [addOq, memb]
    split
    · rfl
    · exact hc
theorem Hp.addOq {C : Ctx} {e : Env} {σ : St} {w : World} (h : Hp C e (look σ) w) (h1 : alook σ.bk σ.nx = none) (h2 : memb σ.nl σ.nn = false) {t : TypeId} {m : Nat} {f : Nat → Value} {p : Nat × Nat} {k : Nat} (hp : p.1 < w.heap.size)
    (hnew : ∀ id b, look σ (.k id) = some (.bk b) → b.live = true → (e.pl id).1 ≠ p.1) (hc : ∀ j, j < m → w.cell? ⟨p.1, p.2 + j, none⟩ = some (f j)) : Hp C (addEnv σ e p k) (look (Sx.addOq σ t m f)) w := by
  have hA := addOq_agree (e := e) (p := p) (m := k) h1 h2
  have hS := addOq_sub σ t m f
  have kold : ∀ id, id ≠ σ.nx → look (Sx.addOq σ t m f) (.k id) = look σ (.k id) := fun id hid => by
    simp only [look, Sx.addOq, alook]
    rw [beq_ff.2 (Ne.symm hid)]
  have cold : ∀ id off, id ≠ σ.nx → look (Sx.addOq σ t m f) (.c id off) = look σ (.c id off) := fun id off hid => by
    simp only [look, Sx.addOq, alook]
    rw [beq_ff.2 (Ne.symm hid)]
  have knew : look (Sx.addOq σ t m f) (.k σ.nx) = some (.bk (.oq t true m f none)) := by
    simp only [look, Sx.addOq, alook, Nat.beq_refl]; rfl
  have cnew : ∀ off, look (Sx.addOq σ t m f) (.c σ.nx off) = none := fun off => by
    simp only [look, Sx.addOq, alook, Nat.beq_refl]; rfl
  have ad : ∀ id off, id ≠ σ.nx → (addEnv σ e p k).ad id off = e.ad id off := fun id off hid => by
    unfold Env.ad; show (⟨(if id = σ.nx then p else e.pl id).1, _, none⟩ : Addr) = _
    simp only [addEnv, if_neg hid]
  have pl : ∀ id, id ≠ σ.nx → (addEnv σ e p k).pl id = e.pl id := fun id hid => if_neg hid
  have pln : (addEnv σ e p k).pl σ.nx = p := if_pos rfl
  refine ⟨h.new, ?_, ?_, ?_, ?_, ?_, ?_, ?_, h.pin.mono hA hS, h.fr⟩
  · intro id off v hv
    by_cases hid : id = σ.nx
    · subst hid; rw [cnew] at hv; cases hv
    · rw [cold id off hid] at hv
      obtain ⟨q1, ⟨t', ro, n, cp, q2, q3⟩, q4⟩ := h.cl id off v hv
      refine ⟨q1.sub hS, ⟨t', ro, n, cp, by rw [kold id hid]; exact q2, q3⟩, ?_⟩
      rw [ad id off hid, Cv.den_agree hA q1]
      exact q4
  · intro id t' n cp hb off ho
    by_cases hid : id = σ.nx
    · subst hid; rw [knew] at hb; cases hb
    · rw [kold id hid] at hb
      rw [ad id off hid]
      exact h.ar id t' n cp hb off ho
  · intro id t' ro n f' cp hb off ho
    by_cases hid : id = σ.nx
    · subst hid
      rw [knew] at hb
      cases hb
      refine ⟨?_, fun h => by cases h⟩
      unfold Env.ad
      rw [pln]
      exact hc off ho
    · rw [kold id hid] at hb
      rw [ad id off hid]
      exact h.oq id t' ro n f' cp hb off ho
  · intro id b c es hb hcp
    by_cases hid : id = σ.nx
    · subst hid
      rw [knew] at hb
      obtain rfl : BI.oq t true m f none = b := by simpa using hb
      cases hcp
    · rw [kold id hid] at hb
      obtain ⟨q1, q2, cs', q3, q4, q5⟩ := h.cp id b c es hb hcp
      refine ⟨hS.2 c q1, by rw [pl id hid]; exact q2, cs', by rw [pl id hid]; exact q3, by rw [q4, hA.2 c q1], q5⟩
  · intro id id' b b' hb hb' hr hl hne
    by_cases hid : id = σ.nx
    · subst hid
      rw [knew] at hb
      obtain rfl : BI.oq t true m f none = b := by simpa using hb
      cases hr
    · rw [kold id hid] at hb
      rw [pl id hid]
      by_cases hid' : id' = σ.nx
      · subst hid'
        rw [pln]
        exact hnew id b hb (by cases b <;> first | rfl | cases hr)
      · rw [kold id' hid'] at hb'
        rw [pl id' hid']
        exact h.inj id id' b b' hb hb' hr hl hne
  · intro id b hb hl
    by_cases hid : id = σ.nx
    · subst hid; rw [pln]; exact hp
    · rw [kold id hid] at hb
      rw [pl id hid]
      exact h.lt id b hb hl
  · intro id b hb hr
    by_cases hid : id = σ.nx
    · subst hid
      rw [knew] at hb
      obtain rfl : BI.oq t true m f none = b := by simpa using hb
      cases hr
    · rw [kold id hid] at hb
      rw [pl id hid]
      exact h.mu id b hb hr
/-- A new row, and no error. -/
def NewOq (w w' : World) (n m : Nat) (f : Nat → Value) (en : Ending) : Prop := ∃ b off cap, en = .returned (.tuple #[.slice (some ⟨b, off, none⟩) n cap, .int .i64 0]) ∧ w.heap.size ≤ b ∧ b < w'.heap.size ∧ (∀ j, j < m → w'.cell? ⟨b, off + j, none⟩ = some (f j)) ∧ Below w.heap.size w w'
def oqSv (σ : St) (n : Nat) : Sv := .tup [(false, [.slc σ.nx (.lit 0) (.opq n) (.nam σ.nn)]), (false, [.i .i64 0 true])]
theorem FunOk.of_row {f : FuncId} {args : List Sv} {σ : St} {t : TypeId} {n m : Nat} {g : Nat → Value} (h1 : alook σ.bk σ.nx = none) (h2 : memb σ.nl σ.nn = false)
    (h : ∀ (C : Ctx) (e : Env) (w : World), Hp C e (look σ) w → (∀ x ∈ args, x.sc (look σ)) → Calls P f (args.map (·.den e)).toArray w fun en w' => NewOq w w' n m g en) : FunOk P f args σ (oqSv σ n) (addOq σ t m g) := by
  refine ⟨fun C e w hp ha => ?_, fun id off hk _ => ?_⟩
  case refine_2 =>
    have hne : id ≠ σ.nx := fun e => by rw [kn_look, e, h1] at hk; cases hk
    simp only [Sx.addOq, look, alook]
    rw [beq_ff.2 (Ne.symm hne)]
  refine (h C e w hp ha).mono fun en w' => ?_
  rintro ⟨b, off, cap, rfl, hlo, hhi, hcell, hb⟩
  refine ⟨addEnv σ e (b, off) cap, addOq_agree h1 h2, (hp.keep hb).addOq h1 h2 hhi (fun id bi hbi hl => ?_) hcell, ?_, ?_⟩
  · have := hp.lt id bi hbi hl
    show (e.pl id).1 ≠ b
    omega
  · have e1 : (addEnv σ e (b, off) cap).pl σ.nx = (b, off) := if_pos rfl
    have e2 : (addEnv σ e (b, off) cap).nm σ.nn = cap := if_pos rfl
    have e3 : (addEnv σ e (b, off) cap).ad σ.nx 0 = ⟨b, off, none⟩ := by unfold Env.ad; rw [e1]; rfl
    show Ending.returned (.tuple #[.slice (some ⟨b, off, none⟩) n cap, .int .i64 0]) = Ending.returned (.tuple #[.slice (some ((addEnv σ e (b, off) cap).ad σ.nx 0)) n ((addEnv σ e (b, off) cap).nm σ.nn), .int .i64 0])
    rw [e2, e3]
  · intro p hp
    simp only [List.mem_cons, List.not_mem_nil, or_false] at hp
    rcases hp with rfl | rfl
    · intro c hc
      obtain rfl : c = _ := by simpa using hc
      refine ⟨?_, trivial, trivial, ?_⟩
      · unfold kn; simp only [look, Sx.addOq, alook, Nat.beq_refl]; rfl
      · show knn _ _; unfold knn; simp only [look, Sx.addOq, memb, Nat.beq_refl]; rfl
    · intro c hc
      obtain rfl : c = _ := by simpa using hc
      exact trivial

/-- One block that may be written. -/
def st1 (T : TypeId) (cs : List Cv) : St := { tm := [], bk := [(1, .ar T false cs none)], nx := 2, nl := [], nn := 0, lg := [], vr := [] }
/-- A function that writes into one block, some cells of which it never looks at. -/
theorem FunOk.renU {f : FuncId} {args0 args : List Sv} {T : TypeId} {cs1 csN : List Cv} {σ : St} {v : Sv} {id : Nat}
    (H : ∀ e : Env, ∃ (cs : List Cv) (σ0' : St) (cs' : List Cv), FunOk P f args0 (st1 T cs) v σ0' ∧ alook σ0'.bk 1 = some (.ar T false cs' none) ∧ cs.all Cv.freeB = true ∧ cs'.all Cv.freeB = true ∧
      (∀ j : Nat, (cs1[j]?).map (Cv.den e) = (cs[j]?).map (Cv.den env0)) ∧ ∀ j : Nat, (csN[j]?).map (Cv.den e) = (cs'[j]?).map (Cv.den env0))
    (hb : alook σ.bk id = some (.ar T false cs1 none)) (hlenN : csN.length = cs1.length) (hsc : ∀ c ∈ csN, c.freeB = true ∨ c ∈ cs1)
    (ha : ∀ e : Env, args.map (·.den e) = args0.map (·.den (e.ren fun _ => id))) (hs : ∀ x ∈ args0, ∀ cs, x.sc (look (st1 T cs))) (hv : v.freeB = true) :
    FunOk P f args σ v (putC σ id csN) := by
  have hkeep : KeepL σ (putC σ id csN) := by
    intro i off _ hu
    by_cases hi : i = id
    · subst hi
      have hge : csN.length ≤ off := by
        rcases Nat.lt_or_ge off csN.length with h1 | h1
        · exfalso
          obtain ⟨v, hv⟩ := mem_cellWrs (id := i) (cs := csN) (o := 0) (j := off) h1
          have := List.all_eq_true.1 hu _ (List.mem_append_left _ (List.mem_reverse.2 hv))
          simp at this
        · exact h1
      simp only [look, putC, alook_amod, if_true, hb, Option.map_some, Option.bind_some, Blk.putL, Blk.cell]
      rw [List.getElem?_eq_none hge, List.getElem?_eq_none (by rw [← hlenN]; exact hge)]
    · simp only [look, putC, alook_amod, if_neg hi]
  refine ⟨fun C e w hp _ => ?_, hkeep⟩
  obtain ⟨cs, σ0', cs', h, hr, ics, ics', same1, same2⟩ := H e
  have k1 : look σ (.k id) = some (.bk (.ar T false cs1.length none)) := by simp only [look, hb]; rfl
  have hfd : ∀ {c : Cv}, c.freeB = true → ∀ e e' : Env, c.den e = c.den e' := fun {c} hc e e' => by
    have := Cv.den_agree (s := fun _ => none) (e := e') (e' := e) ⟨fun _ h => (by cases h), fun _ h => (by cases h)⟩ (Cv.free_sc hc _)
    exact this
  have hlen0 : cs.length = cs1.length := by
    rcases Nat.lt_trichotomy cs.length cs1.length with h1 | h1 | h1
    · have := same1 cs.length
      rw [List.getElem?_eq_getElem h1, List.getElem?_eq_none (Nat.le_refl _)] at this; cases this
    · exact h1
    · have := same1 cs1.length
      rw [List.getElem?_eq_none (Nat.le_refl _), List.getElem?_eq_getElem h1] at this; cases this
  have hlen' : cs'.length = csN.length := by
    rcases Nat.lt_trichotomy cs'.length csN.length with h1 | h1 | h1
    · have := same2 cs'.length
      rw [List.getElem?_eq_getElem h1, List.getElem?_eq_none (Nat.le_refl _)] at this; cases this
    · exact h1
    · have := same2 csN.length
      rw [List.getElem?_eq_none (Nat.le_refl _), List.getElem?_eq_getElem h1] at this; cases this
  let C1 : Ctx := ⟨fun k => k = (e.pl id).1 ∨ w.heap.size ≤ k, fun _ => none, fun _ => none, w⟩
  have one : ∀ i b, look (st1 T cs) (.k i) = some (.bk b) → i = 1 ∧ b = .ar T false cs.length none := by
    intro i b hib
    simp only [look, st1, alook] at hib
    cases h1 : Nat.beq 1 i with
    | true =>
      rw [h1] at hib
      obtain rfl := beq_iff'.1 h1
      exact ⟨rfl, by simpa [Blk.info] using hib.symm⟩
    | false => rw [h1] at hib; cases hib
  have hp0 : Hp C1 (e.ren fun _ => id) (look (st1 T cs)) w := by
    refine ⟨fun k hk => Or.inr hk, ?_, ?_, ?_, ?_, ?_, ?_, ?_, ⟨fun _ _ h => (by cases h), fun _ _ h => (by cases h)⟩, ⟨rfl, rfl, rfl, Nat.le_refl _, fun _ _ _ => rfl, hp.fr.glob fun k hk hm => by
      rcases hm with hm | hm
      · exact hm ▸ hp.mu id _ k1 rfl
      · have : w.heap.size ≤ k := hm
        have := hp.fr.size
        omega⟩⟩
    · intro i j c hc
      simp only [look, st1, alook] at hc
      cases h1 : Nat.beq 1 i with
      | true =>
        rw [h1] at hc
        obtain rfl := beq_iff'.1 h1
        obtain ⟨c', hc1, hc2⟩ := Option.map_eq_some_iff.1 (show (cs[j]?).map LV.cv = some (.cv c) from hc)
        obtain rfl : c' = c := by simpa using hc2
        have hfc := List.all_eq_true.1 ics _ (List.mem_of_getElem? hc1)
        refine ⟨Cv.free_sc hfc _, ⟨T, false, cs.length, none, rfl, (List.getElem?_eq_some_iff.1 hc1).1⟩, ?_⟩
        have h5 := same1 j
        have hlt1 : j < cs1.length := by rw [← hlen0]; exact (List.getElem?_eq_some_iff.1 hc1).1
        rw [hc1, List.getElem?_eq_getElem hlt1] at h5
        have h5 : (cs1[j]).den e = c'.den env0 := by simpa using h5
        have h6 : look σ (.c id j) = some (.cv cs1[j]) := by
          simp only [look, hb, Option.bind_some, Blk.cell, List.getElem?_eq_getElem hlt1, Option.map_some]
        obtain ⟨_, _, h7⟩ := hp.cl _ _ _ h6
        rw [h5, hfd hfc env0 (e.ren fun _ => id)] at h7
        exact h7
      | false => rw [h1] at hc; cases hc
    · intro i t n cp hi off ho
      obtain ⟨rfl, h2⟩ := one i _ hi
      cases h2
      exact hp.ar id T cs1.length none k1 off (by rw [← hlen0]; exact ho)
    · intro i t r n f cp hi
      obtain ⟨_, h2⟩ := one i _ hi
      cases h2
    · intro i b c es hi hcp
      obtain ⟨_, rfl⟩ := one i _ hi
      cases hcp
    · intro i j b b' hi hj _ _ hij
      obtain ⟨rfl, _⟩ := one i _ hi
      obtain ⟨rfl, _⟩ := one j _ hj
      exact absurd rfl hij
    · intro i b hi hl
      obtain ⟨rfl, _⟩ := one i _ hi
      exact hp.lt id _ k1 rfl
    · intro i b hi hrw
      obtain ⟨rfl, _⟩ := one i _ hi
      exact Or.inl rfl
  have h1 := h.run C1 (e.ren fun _ => id) w hp0 (fun x hx => hs x hx cs)
  rw [ha e]
  refine h1.mono fun en w' => ?_
  rintro ⟨e', hA, hp', rfl, -⟩
  have hpl : e'.pl 1 = e.pl id := hA.1 1 (by unfold kn; simp only [look, st1, alook]; rfl)
  have kk : ∀ i, look (putC σ id csN) (.k i) = look σ (.k i) := by
    intro i
    simp only [look, putC, alook_amod]
    split
    · rename_i e1
      subst e1
      rw [hb]
      simp only [Option.map_some, Blk.putL, Blk.info, hlenN]
    · rfl
  have kc : ∀ i off, i ≠ id → look (putC σ id csN) (.c i off) = look σ (.c i off) := by
    intro i off hi
    simp only [look, putC, alook_amod, if_neg hi]
  have kcid : ∀ off, look (putC σ id csN) (.c id off) = (csN[off]?).map .cv := by
    intro off
    simp only [look, putC, alook_amod, if_true, hb, Option.map_some, Option.bind_some, Blk.putL, Blk.cell]
  have hS : Sub (look σ) (look (putC σ id csN)) := ⟨fun i hi => by unfold kn at hi ⊢; rw [kk]; exact hi, fun _ hc => hc⟩
  have ad1 : ∀ off, e'.ad 1 off = e.ad id off := fun off => by
    unfold Env.ad; rw [hpl]
  have kr : look σ0' (.k 1) = some (.bk (.ar T false cs'.length none)) := by simp only [look, hr]; rfl
  have keep : ∀ i b, i ≠ id → look σ (.k i) = some (.bk b) → b.live = true → w'.heap[(e.pl i).1]? = w.heap[(e.pl i).1]? := by
    intro i b hi hbk hl
    refine hp'.fr.block _ (hp.lt i b hbk hl) ?_
    rintro (h2 | h2)
    · exact hp.inj id i _ b k1 hbk rfl hl (Ne.symm hi) h2.symm
    · have := hp.lt i b hbk hl
      omega
  refine ⟨e, Agree.refl _ _, ⟨hp.new, ?_, ?_, ?_, ?_, ?_, ?_, ?_, hp.pin.mono (Agree.refl _ _) hS, ?_⟩, by rw [Sv.free_den hv e' e], Sv.free_sc hv _⟩
  · intro i off x hx
    by_cases hi : i = id
    · subst hi
      rw [kcid] at hx
      obtain ⟨c2, hc2, hc3⟩ := Option.map_eq_some_iff.1 hx
      obtain rfl : c2 = x := by simpa using hc3
      have hlt := (List.getElem?_eq_some_iff.1 hc2).1
      refine ⟨?_, ⟨T, false, cs1.length, none, by rw [kk]; exact k1, by rw [← hlenN]; exact hlt⟩, ?_⟩
      · rcases hsc c2 (List.mem_of_getElem? hc2) with h2 | h2
        · exact Cv.free_sc h2 _
        · obtain ⟨j, hj⟩ := List.mem_iff_getElem?.1 h2
          have h6 : look σ (.c i j) = some (.cv c2) := by
            simp only [look, hb, Option.bind_some, Blk.cell, hj, Option.map_some]
          exact (hp.cl i j c2 h6).1.sub hS
      · have h5 := same2 off
        have hlt' : off < cs'.length := by rw [hlen']; exact hlt
        rw [hc2, List.getElem?_eq_getElem hlt'] at h5
        have h5 : c2.den e = (cs'[off]).den env0 := by simpa using h5
        have h7 := (hp'.cl 1 off cs'[off] (by simp only [look, hr, Option.bind_some, Blk.cell, List.getElem?_eq_getElem hlt']; rfl)).2.2
        rw [ad1] at h7
        rw [h7, h5, hfd (List.all_eq_true.1 ics' _ (List.getElem_mem hlt')) e' env0]
    · rw [kc i off hi] at hx
      obtain ⟨q1, ⟨t, r, n, cp, q2, q3⟩, q4⟩ := hp.cl i off x hx
      exact ⟨q1.sub hS, ⟨t, r, n, cp, by rw [kk]; exact q2, q3⟩, (World.cell?_of_block (w := w) (keep i _ hi q2 rfl)).trans q4⟩
  · intro i t n cp hx off ho
    rw [kk] at hx
    by_cases hi : i = id
    · subst hi
      rw [k1] at hx
      obtain ⟨rfl, rfl, rfl⟩ : T = t ∧ cs1.length = n ∧ none = cp := by simpa using hx
      have := hp'.ar 1 T cs'.length none kr off (by rw [hlen', hlenN]; exact ho)
      rw [ad1] at this
      exact this
    · have hk := keep i _ hi hx rfl
      have := hp.ar i t n cp hx off ho
      exact ⟨(World.frozen?_of_block (w := w) hk).trans this.1, by rw [World.cell?_of_block (w := w) hk]; exact this.2⟩
  · intro i t r n f cp hx off ho
    rw [kk] at hx
    by_cases hi : i = id
    · subst hi; rw [k1] at hx; cases hx
    · have hk := keep i _ hi hx rfl
      have := hp.oq i t r n f cp hx off ho
      exact ⟨(World.cell?_of_block (w := w) hk).trans this.1, fun hro => (World.frozen?_of_block (w := w) hk).trans (this.2 hro)⟩
  · intro i b c es hx hcp
    rw [kk] at hx
    by_cases hi : i = id
    · subst hi
      rw [k1] at hx
      obtain rfl : BI.ar T false cs1.length none = b := by simpa using hx
      cases hcp
    · have hl : b.live = true := by cases b <;> first | rfl | cases hcp
      obtain ⟨q1, q2, a, q3, q4⟩ := hp.cp i b c es hx hcp
      exact ⟨hS.2 c q1, q2, a, (keep i b hi hx hl).trans q3, q4⟩
  · intro i j b b' hi hj hrw hl hij
    rw [kk] at hi hj
    exact hp.inj i j b b' hi hj hrw hl hij
  · intro i b hi hl
    rw [kk] at hi
    exact Nat.lt_of_lt_of_le (hp.lt i b hi hl) hp'.fr.size
  · intro i b hi hrw
    rw [kk] at hi
    exact hp.mu i b hi hrw
  · have F := hp.fr
    have G := hp'.fr
    refine ⟨G.os.trans F.os, G.tape.trans F.tape, G.output.trans F.output, Nat.le_trans F.size G.size, fun k hk hM => ?_, F.gl⟩
    refine (G.block k (Nat.lt_of_lt_of_le hk F.size) ?_).trans (F.block k hk hM)
    rintro (h2 | h2)
    · exact hM (h2 ▸ hp.mu id _ k1 rfl)
    · have : w.heap.size ≤ k := h2
      have := F.size
      omega
end
end Sx
end Go.Proofs.YtdelgbdiofkndaaGreatDoor
