/-
  What is known of a function, carried into a caller's state: from facts about memory; a new row that is only read; a block with cells that nobody looks at.
-/
import Derived.Test.YtlhponankanlmaaDoorG8Forges
import Derived.Test.YtlhponankanlmaaDoorG3Forges
import Derived.Test.YtlhponankanlmaaDoorG7Forges
import Derived.Lib.AppendIntMem
import Derived.Test.YtlhponankanlmaaDoorG2Forges
import Derived.ChangeSlices
import Derived.OpenShut
import Derived.ChangeSame
import Derived.ProofKit
import Derived.LaidSub
import Derived.Lay
import Derived.MakeChecks
import Derived.KernelRfl
import Derived.Deep.QuietTactic
set_option linter.unusedSimpArgs false
set_option linter.unusedVariables false
namespace Go.Proofs.YtlhponankanlmaaDoor
namespace Sx
open Go.RowKit

section
variable {P : Program} {tb : Tb}
/-- A function that hands back a value and leaves alone what was there, by what the state says of memory. -/
theorem FunOk.of_w {f : FuncId} {args : List Sv} {v : Sv} {σ : St} (hv : v.freeB = true) (h : ∀ (C : Ctx) (e : Env) (w : World), Hp C e (look σ) w → (∀ x ∈ args, x.sc (look σ)) → Calls P f (args.map (·.den e)).toArray w fun en w' => en = .returned (v.den e) ∧ Below w.heap.size w w') : FunOk P f args σ v σ := by
  refine ⟨fun C e w hp ha => ?_, KeepL.refl _⟩
  refine (h C e w hp ha).mono fun en w' => ?_
  rintro ⟨rfl, hb⟩
  exact ⟨e, Agree.refl _ _, hp.keep hb, rfl, Sv.free_sc hv _⟩
/-- A state that knows one more row, which is only read, and one more number. -/
def addOq (σ : St) (t : TypeId) (m : Nat) (f : Nat → Value) : St := { σ with bk := (σ.nx, .oq t true m f none) :: σ.bk, nx := σ.nx + 1, nl := σ.nn :: σ.nl, nn := σ.nn + 1 }
theorem addOq_agree {σ : St} {e : Env} {p : Nat × Nat} {m : Nat} (h1 : alook σ.bk σ.nx = none) (h2 : memb σ.nl σ.nn = false) : Agree (look σ) e (addEnv σ e p m) := addRo_agree h1 h2
theorem addOq_sub (σ : St) (t : TypeId) (m : Nat) (f : Nat → Value) : Sub (look σ) (look (addOq σ t m f)) := by
  refine ⟨fun id hid => ?_, fun c hc => ?_⟩
  · rw [kn_look] at hid ⊢
    simp only [addOq, alook]
    split
    · rfl
    · exact hid
  · rw [knn_look] at hc ⊢
    simp only [addOq, memb]
    split
    · rfl
    · exact hc
theorem Hp.addOq {C : Ctx} {e : Env} {σ : St} {w : World} (h : Hp C e (look σ) w) (h1 : alook σ.bk σ.nx = none) (h2 : memb σ.nl σ.nn = false) {t : TypeId} {m : Nat} {f : Nat → Value} {p : Nat × Nat} {k : Nat} (hp : p.1 < w.heap.size)
    (hnew : ∀ id b, look σ (.k id) = some (.bk b) → b.live = true → (e.pl id).1 ≠ p.1) (hc : ∀ j, j < m → w.cell? ⟨p.1, p.2 + j, none⟩ = some (f j)) : Hp C (addEnv σ e p k) (look (Sx.addOq σ t m f)) w := by
  have hA := addOq_agree (e := e) (p := p) (m := k) h1 h2
  have hS := addOq_sub σ t m f
  have kold : ∀ id, id ≠ σ.nx → look (Sx.addOq σ t m f) (.k id) = look σ (.k id) := fun id hid => by
    simp only [look, Sx.addOq, alook]
    rw [beq_ff.2 (Ne.symm hid)]
  have cold : ∀ id off, id ≠ σ.nx → look (Sx.addOq σ t m f) (.c id off) = look σ (.c id off) := fun id off hid => by
    simp only [look, Sx.addOq, alook]
    rw [beq_ff.2 (Ne.symm hid)]
  have knew : look (Sx.addOq σ t m f) (.k σ.nx) = some (.bk (.oq t true m f none)) := by
    simp only [look, Sx.addOq, alook, Nat.beq_refl]; rfl
  have cnew : ∀ off, look (Sx.addOq σ t m f) (.c σ.nx off) = none := fun off => by
    simp only [look, Sx.addOq, alook, Nat.beq_refl]; rfl
  have ad : ∀ id off, id ≠ σ.nx → (addEnv σ e p k).ad id off = e.ad id off := fun id off hid => by
    unfold Env.ad; show (⟨(if id = σ.nx then p else e.pl id).1, _, none⟩ : Addr) = _
    simp only [addEnv, if_neg hid]
  have pl : ∀ id, id ≠ σ.nx → (addEnv σ e p k).pl id = e.pl id := fun id hid => if_neg hid
  have pln : (addEnv σ e p k).pl σ.nx = p := if_pos rfl
  refine ⟨h.new, ?_, ?_, ?_, ?_, ?_, ?_, ?_, h.pin.mono hA hS, h.fr⟩
  · intro id off v hv
    by_cases hid : id = σ.nx
    · subst hid; rw [cnew] at hv; cases hv
    · rw [cold id off hid] at hv
      obtain ⟨q1, ⟨t', ro, n, cp, q2, q3⟩, q4⟩ := h.cl id off v hv
      refine ⟨q1.sub hS, ⟨t', ro, n, cp, by rw [kold id hid]; exact q2, q3⟩, ?_⟩
      rw [ad id off hid, Cv.den_agree hA q1]
      exact q4
  · intro id t' n cp hb off ho
    by_cases hid : id = σ.nx
    · subst hid; rw [knew] at hb; cases hb
    · rw [kold id hid] at hb
      rw [ad id off hid]
      exact h.ar id t' n cp hb off ho
  · intro id t' ro n f' cp hb off ho
    by_cases hid : id = σ.nx
    · subst hid
      rw [knew] at hb
      cases hb
      refine ⟨?_, fun h => by cases h⟩
      unfold Env.ad
      rw [pln]
      exact hc off ho
    · rw [kold id hid] at hb
      rw [ad id off hid]
      exact h.oq id t' ro n f' cp hb off ho
  · intro id b c es hb hcp
    by_cases hid : id = σ.nx
    · subst hid
      rw [knew] at hb
      obtain rfl : BI.oq t true m f none = b := by simpa using hb
      cases hcp
    · rw [kold id hid] at hb
      obtain ⟨q1, q2, cs', q3, q4, q5⟩ := h.cp id b c es hb hcp
      refine ⟨hS.2 c q1, by rw [pl id hid]; exact q2, cs', by rw [pl id hid]; exact q3, by rw [q4, hA.2 c q1], q5⟩
  · intro id id' b b' hb hb' hr hl hne
    by_cases hid : id = σ.nx
    · subst hid
      rw [knew] at hb
      obtain rfl : BI.oq t true m f none = b := by simpa using hb
      cases hr
    · rw [kold id hid] at hb
      rw [pl id hid]
      by_cases hid' : id' = σ.nx
      · subst hid'
        rw [pln]
        exact hnew id b hb (by cases b <;> first | rfl | cases hr)
      · rw [kold id' hid'] at hb'
        rw [pl id' hid']
        exact h.inj id id' b b' hb hb' hr hl hne
  · intro id b hb hl
    by_cases hid : id = σ.nx
    · subst hid; rw [pln]; exact hp
    · rw [kold id hid] at hb
      rw [pl id hid]
      exact h.lt id b hb hl
  · intro id b hb hr
    by_cases hid : id = σ.nx
    · subst hid
      rw [knew] at hb
      obtain rfl : BI.oq t true m f none = b := by simpa using hb
      cases hr
    · rw [kold id hid] at hb
      rw [pl id hid]
      exact h.mu id b hb hr
/-- A new row, and no error. -/
def NewOq (w w' : World) (n m : Nat) (f : Nat → Value) (en : Ending) : Prop := ∃ b off cap, en = .returned (.tuple #[.slice (some ⟨b, off, none⟩) n cap, .int .i64 0]) ∧ w.heap.size ≤ b ∧ b < w'.heap.size ∧ (∀ j, j < m → w'.cell? ⟨b, off + j, none⟩ = some (f j)) ∧ Below w.heap.size w w'
def oqSv (σ : St) (n : Nat) : Sv := .tup [(false, [.slc σ.nx (.lit 0) (.opq n) (.nam σ.nn)]), (false, [.i .i64 0 true])]
theorem FunOk.of_row {f : FuncId} {args : List Sv} {σ : St} {t : TypeId} {n m : Nat} {g : Nat → Value} (h1 : alook σ.bk σ.nx = none) (h2 : memb σ.nl σ.nn = false)
    (h : ∀ (C : Ctx) (e : Env) (w : World), Hp C e (look σ) w → (∀ x ∈ args, x.sc (look σ)) → Calls P f (args.map (·.den e)).toArray w fun en w' => NewOq w w' n m g en) : FunOk P f args σ (oqSv σ n) (addOq σ t m g) := by
  refine ⟨fun C e w hp ha => ?_, fun id off hk _ => ?_⟩
  case refine_2 =>
    have hne : id ≠ σ.nx := fun e => by rw [kn_look, e, h1] at hk; cases hk
    simp only [Sx.addOq, look, alook]
    rw [beq_ff.2 (Ne.symm hne)]
  refine (h C e w hp ha).mono fun en w' => ?_
  rintro ⟨b, off, cap, rfl, hlo, hhi, hcell, hb⟩
  refine ⟨addEnv σ e (b, off) cap, addOq_agree h1 h2, (hp.keep hb).addOq h1 h2 hhi (fun id bi hbi hl => ?_) hcell, ?_, ?_⟩
  · have := hp.lt id bi hbi hl
    show (e.pl id).1 ≠ b
    omega
  · have e1 : (addEnv σ e (b, off) cap).pl σ.nx = (b, off) := if_pos rfl
    have e2 : (addEnv σ e (b, off) cap).nm σ.nn = cap := if_pos rfl
    have e3 : (addEnv σ e (b, off) cap).ad σ.nx 0 = ⟨b, off, none⟩ := by unfold Env.ad; rw [e1]; rfl
    show Ending.returned (.tuple #[.slice (some ⟨b, off, none⟩) n cap, .int .i64 0]) = Ending.returned (.tuple #[.slice (some ((addEnv σ e (b, off) cap).ad σ.nx 0)) n ((addEnv σ e (b, off) cap).nm σ.nn), .int .i64 0])
    rw [e2, e3]
  · intro p hp
    simp only [List.mem_cons, List.not_mem_nil, or_false] at hp
    rcases hp with rfl | rfl
    · intro c hc
      obtain rfl : c = _ := by simpa using hc
      refine ⟨?_, trivial, trivial, ?_⟩
      · unfold kn; simp only [look, Sx.addOq, alook, Nat.beq_refl]; rfl
      · show knn _ _; unfold knn; simp only [look, Sx.addOq, memb, Nat.beq_refl]; rfl
    · intro c hc
      obtain rfl : c = _ := by simpa using hc
      exact trivial

/-- One block that may be written. -/
def st1 (T : TypeId) (cs : List Cv) : St := { tm := [], bk := [(1, .ar T false cs none)], nx := 2, nl := [], nn := 0, lg := [], vr := [] }
/-- A function that writes into one block, some cells of which it never looks at. -/
theorem FunOk.renU {f : FuncId} {args0 args : List Sv} {T : TypeId} {cs1 csN : List Cv} {σ : St} {v : Sv} {id : Nat}
    (H : ∀ e : Env, ∃ (cs : List Cv) (σ0' : St) (cs' : List Cv), FunOk P f args0 (st1 T cs) v σ0' ∧ alook σ0'.bk 1 = some (.ar T false cs' none) ∧ cs.all Cv.freeB = true ∧ cs'.all Cv.freeB = true ∧
      (∀ j : Nat, (cs1[j]?).map (Cv.den e) = (cs[j]?).map (Cv.den env0)) ∧ ∀ j : Nat, (csN[j]?).map (Cv.den e) = (cs'[j]?).map (Cv.den env0))
    (hb : alook σ.bk id = some (.ar T false cs1 none)) (hlenN : csN.length = cs1.length) (hsc : ∀ c ∈ csN, c.freeB = true ∨ c ∈ cs1)
    (ha : ∀ e : Env, args.map (·.den e) = args0.map (·.den (e.ren fun _ => id))) (hs : ∀ x ∈ args0, ∀ cs, x.sc (look (st1 T cs))) (hv : v.freeB = true) :
    FunOk P f args σ v (putC σ id csN) := by
  have hkeep : KeepL σ (putC σ id csN) := by
    intro i off _ hu
    by_cases hi : i = id
    · subst hi
      have hge : csN.length ≤ off := by
        rcases Nat.lt_or_ge off csN.length with h1 | h1
        · exfalso
          obtain ⟨v, hv⟩ := mem_cellWrs (id := i) (cs := csN) (o := 0) (j := off) h1
          have := List.all_eq_true.1 hu _ (List.mem_append_left _ (List.mem_reverse.2 hv))
          simp at this
        · exact h1
      simp only [look, putC, alook_amod, if_true, hb, Option.map_some, Option.bind_some, Blk.putL, Blk.cell]
      rw [List.getElem?_eq_none hge, List.getElem?_eq_none (by rw [← hlenN]; exact hge)]
    · simp only [look, putC, alook_amod, if_neg hi]
  refine ⟨fun C e w hp _ => ?_, hkeep⟩
  obtain ⟨cs, σ0', cs', h, hr, ics, ics', same1, same2⟩ := H e
  have k1 : look σ (.k id) = some (.bk (.ar T false cs1.length none)) := by simp only [look, hb]; rfl
  have hfd : ∀ {c : Cv}, c.freeB = true → ∀ e e' : Env, c.den e = c.den e' := fun {c} hc e e' => by
    have := Cv.den_agree (s := fun _ => none) (e := e') (e' := e) ⟨fun _ h => (by cases h), fun _ h => (by cases h)⟩ (Cv.free_sc hc _)
    exact this
  have hlen0 : cs.length = cs1.length := by
    rcases Nat.lt_trichotomy cs.length cs1.length with h1 | h1 | h1
    · have := same1 cs.length
      rw [List.getElem?_eq_getElem h1, List.getElem?_eq_none (Nat.le_refl _)] at this; cases this
    · exact h1
    · have := same1 cs1.length
      rw [List.getElem?_eq_none (Nat.le_refl _), List.getElem?_eq_getElem h1] at this; cases this
  have hlen' : cs'.length = csN.length := by
    rcases Nat.lt_trichotomy cs'.length csN.length with h1 | h1 | h1
    · have := same2 cs'.length
      rw [List.getElem?_eq_getElem h1, List.getElem?_eq_none (Nat.le_refl _)] at this; cases this
    · exact h1
    · have := same2 csN.length
      rw [List.getElem?_eq_none (Nat.le_refl _), List.getElem?_eq_getElem h1] at this; cases this
  let C1 : Ctx := ⟨fun k => k = (e.pl id).1 ∨ w.heap.size ≤ k, fun _ => none, fun _ => none, w⟩
  have one : ∀ i b, look (st1 T cs) (.k i) = some (.bk b) → i = 1 ∧ b = .ar T false cs.length none := by
    intro i b hib
    simp only [look, st1, alook] at hib
    cases h1 : Nat.beq 1 i with
    | true =>
      rw [h1] at hib
      obtain rfl := beq_iff'.1 h1
      exact ⟨rfl, by simpa [Blk.info] using hib.symm⟩
    | false => rw [h1] at hib; cases hib
  have hp0 : Hp C1 (e.ren fun _ => id) (look (st1 T cs)) w := by
    refine ⟨fun k hk => Or.inr hk, ?_, ?_, ?_, ?_, ?_, ?_, ?_, ⟨fun _ _ h => (by cases h), fun _ _ h => (by cases h)⟩, ⟨rfl, rfl, rfl, Nat.le_refl _, fun _ _ _ => rfl, hp.fr.glob fun k hk hm => by
      rcases hm with hm | hm
      · exact hm ▸ hp.mu id _ k1 rfl
      · have : w.heap.size ≤ k := hm
        have := hp.fr.size
        omega⟩⟩
    · intro i j c hc
      simp only [look, st1, alook] at hc
      cases h1 : Nat.beq 1 i with
      | true =>
        rw [h1] at hc
        obtain rfl := beq_iff'.1 h1
        obtain ⟨c', hc1, hc2⟩ := Option.map_eq_some_iff.1 (show (cs[j]?).map LV.cv = some (.cv c) from hc)
        obtain rfl : c' = c := by simpa using hc2
        have hfc := List.all_eq_true.1 ics _ (List.mem_of_getElem? hc1)
        refine ⟨Cv.free_sc hfc _, ⟨T, false, cs.length, none, rfl, (List.getElem?_eq_some_iff.1 hc1).1⟩, ?_⟩
        have h5 := same1 j
        have hlt1 : j < cs1.length := by rw [← hlen0]; exact (List.getElem?_eq_some_iff.1 hc1).1
        rw [hc1, List.getElem?_eq_getElem hlt1] at h5
        have h5 : (cs1[j]).den e = c'.den env0 := by simpa using h5
        have h6 : look σ (.c id j) = some (.cv cs1[j]) := by
          simp only [look, hb, Option.bind_some, Blk.cell, List.getElem?_eq_getElem hlt1, Option.map_some]
        obtain ⟨_, _, h7⟩ := hp.cl _ _ _ h6
        rw [h5, hfd hfc env0 (e.ren fun _ => id)] at h7
        exact h7
      | false => rw [h1] at hc; cases hc
    · intro i t n cp hi off ho
      obtain ⟨rfl, h2⟩ := one i _ hi
      cases h2
      exact hp.ar id T cs1.length none k1 off (by rw [← hlen0]; exact ho)
    · intro i t r n f cp hi
      obtain ⟨_, h2⟩ := one i _ hi
      cases h2
    · intro i b c es hi hcp
      obtain ⟨_, rfl⟩ := one i _ hi
      cases hcp
    · intro i j b b' hi hj _ _ hij
      obtain ⟨rfl, _⟩ := one i _ hi
      obtain ⟨rfl, _⟩ := one j _ hj
      exact absurd rfl hij
    · intro i b hi hl
      obtain ⟨rfl, _⟩ := one i _ hi
      exact hp.lt id _ k1 rfl
    · intro i b hi hrw
      obtain ⟨rfl, _⟩ := one i _ hi
      exact Or.inl rfl
  have h1 := h.run C1 (e.ren fun _ => id) w hp0 (fun x hx => hs x hx cs)
  rw [ha e]
  refine h1.mono fun en w' => ?_
  rintro ⟨e', hA, hp', rfl, -⟩
  have hpl : e'.pl 1 = e.pl id := hA.1 1 (by unfold kn; simp only [look, st1, alook]; rfl)
  have kk : ∀ i, look (putC σ id csN) (.k i) = look σ (.k i) := by
    intro i
    simp only [look, putC, alook_amod]
    split
    · rename_i e1
      subst e1
      rw [hb]
      simp only [Option.map_some, Blk.putL, Blk.info, hlenN]
    · rfl
  have kc : ∀ i off, i ≠ id → look (putC σ id csN) (.c i off) = look σ (.c i off) := by
    intro i off hi
    simp only [look, putC, alook_amod, if_neg hi]
  have kcid : ∀ off, look (putC σ id csN) (.c id off) = (csN[off]?).map .cv := by
    intro off
    simp only [look, putC, alook_amod, if_true, hb, Option.map_some, Option.bind_some, Blk.putL, Blk.cell]
  have hS : Sub (look σ) (look (putC σ id csN)) := ⟨fun i hi => by unfold kn at hi ⊢; rw [kk]; exact hi, fun _ hc => hc⟩
  have ad1 : ∀ off, e'.ad 1 off = e.ad id off := fun off => by
    unfold Env.ad; rw [hpl]
  have kr : look σ0' (.k 1) = some (.bk (.ar T false cs'.length none)) := by simp only [look, hr]; rfl
  have keep : ∀ i b, i ≠ id → look σ (.k i) = some (.bk b) → b.live = true → w'.heap[(e.pl i).1]? = w.heap[(e.pl i).1]? := by
    intro i b hi hbk hl
    refine hp'.fr.block _ (hp.lt i b hbk hl) ?_
    rintro (h2 | h2)
    · exact hp.inj id i _ b k1 hbk rfl hl (Ne.symm hi) h2.symm
    · have := hp.lt i b hbk hl
      omega
  refine ⟨e, Agree.refl _ _, ⟨hp.new, ?_, ?_, ?_, ?_, ?_, ?_, ?_, hp.pin.mono (Agree.refl _ _) hS, ?_⟩, by rw [Sv.free_den hv e' e], Sv.free_sc hv _⟩
  · intro i off x hx
    by_cases hi : i = id
    · subst hi
      rw [kcid] at hx
      obtain ⟨c2, hc2, hc3⟩ := Option.map_eq_some_iff.1 hx
      obtain rfl : c2 = x := by simpa using hc3
      have hlt := (List.getElem?_eq_some_iff.1 hc2).1
      refine ⟨?_, ⟨T, false, cs1.length, none, by rw [kk]; exact k1, by rw [← hlenN]; exact hlt⟩, ?_⟩
      · rcases hsc c2 (List.mem_of_getElem? hc2) with h2 | h2
        · exact Cv.free_sc h2 _
        · obtain ⟨j, hj⟩ := List.mem_iff_getElem?.1 h2
          have h6 : look σ (.c i j) = some (.cv c2) := by
            simp only [look, hb, Option.bind_some, Blk.cell, hj, Option.map_some]
          exact (hp.cl i j c2 h6).1.sub hS
      · have h5 := same2 off
        have hlt' : off < cs'.length := by rw [hlen']; exact hlt
        rw [hc2, List.getElem?_eq_getElem hlt'] at h5
        have h5 : c2.den e = (cs'[off]).den env0 := by simpa using h5
        have h7 := (hp'.cl 1 off cs'[off] (by simp only [look, hr, Option.bind_some, Blk.cell, List.getElem?_eq_getElem hlt']; rfl)).2.2
        rw [ad1] at h7
        rw [h7, h5, hfd (List.all_eq_true.1 ics' _ (List.getElem_mem hlt')) e' env0]
    · rw [kc i off hi] at hx
      obtain ⟨q1, ⟨t, r, n, cp, q2, q3⟩, q4⟩ := hp.cl i off x hx
      exact ⟨q1.sub hS, ⟨t, r, n, cp, by rw [kk]; exact q2, q3⟩, (World.cell?_of_block (w := w) (keep i _ hi q2 rfl)).trans q4⟩
  · intro i t n cp hx off ho
    rw [kk] at hx
    by_cases hi : i = id
    · subst hi
      rw [k1] at hx
      obtain ⟨rfl, rfl, rfl⟩ : T = t ∧ cs1.length = n ∧ none = cp := by simpa using hx
      have := hp'.ar 1 T cs'.length none kr off (by rw [hlen', hlenN]; exact ho)
      rw [ad1] at this
      exact this
    · have hk := keep i _ hi hx rfl
      have := hp.ar i t n cp hx off ho
      exact ⟨(World.frozen?_of_block (w := w) hk).trans this.1, by rw [World.cell?_of_block (w := w) hk]; exact this.2⟩
  · intro i t r n f cp hx off ho
    rw [kk] at hx
    by_cases hi : i = id
    · subst hi; rw [k1] at hx; cases hx
    · have hk := keep i _ hi hx rfl
      have := hp.oq i t r n f cp hx off ho
      exact ⟨(World.cell?_of_block (w := w) hk).trans this.1, fun hro => (World.frozen?_of_block (w := w) hk).trans (this.2 hro)⟩
  · intro i b c es hx hcp
    rw [kk] at hx
    by_cases hi : i = id
    · subst hi
      rw [k1] at hx
      obtain rfl : BI.ar T false cs1.length none = b := by simpa using hx
      cases hcp
    · have hl : b.live = true := by cases b <;> first | rfl | cases hcp
      obtain ⟨q1, q2, a, q3, q4⟩ := hp.cp i b c es hx hcp
      exact ⟨hS.2 c q1, q2, a, (keep i b hi hx hl).trans q3, q4⟩
  · intro i j b b' hi hj hrw hl hij
    rw [kk] at hi hj
    exact hp.inj i j b b' hi hj hrw hl hij
  · intro i b hi hl
    rw [kk] at hi
    exact Nat.lt_of_lt_of_le (hp.lt i b hi hl) hp'.fr.size
  · intro i b hi hrw
    rw [kk] at hi
    exact hp.mu i b hi hrw
  · have F := hp.fr
    have G := hp'.fr
    refine ⟨G.os.trans F.os, G.tape.trans F.tape, G.output.trans F.output, Nat.le_trans F.size G.size, fun k hk hM => ?_, F.gl⟩
    refine (G.block k (Nat.lt_of_lt_of_le hk F.size) ?_).trans (F.block k hk hM)
    rintro (h2 | h2)
    · exact hM (h2 ▸ hp.mu id _ k1 rfl)
    · have : w.heap.size ≤ k := h2
      have := F.size
      omega
end
end Sx
end Go.Proofs.YtlhponankanlmaaDoor

/-
  Rules for the evaluator: names, numbers in decimal, texts that are joined; the examples' text.
-/
set_option linter.unusedSimpArgs false
set_option linter.unusedVariables false
namespace Go.Proofs.YtlhponankanlmaaDoor
open Sx Go.RowKit
theorem fmt_any (n : Int) (h0 : -9223372036854775808 ≤ n) (h1 : n ≤ 9223372036854775807) (w : World) (hG : GlobP w) :
    Calls Tryd.prog 29 #[.int .i64 n, .int .i64 10] w fun e w' => e = .returned (.string ⟨(Lib.itoa n).toArray⟩) ∧ Below w.heap.size w w' := by
  refine (Any.strconv_FormatInt_10 laysM173 n h0 h1 w hG).mono fun e w' => ?_
  rintro ⟨rfl, k, os, rfl⟩
  exact ⟨rfl, Lib.below_grow _ _ (Nat.le_refl _) _ _⟩
theorem join_any (bk o c : Nat) (xs : List ByteArray) (sep : ByteArray) (w : World) (hcells : ∀ (j : Nat) x, xs[j]? = some x → w.cell? ⟨bk, o + j, none⟩ = some (.string x)) (hbk : bk < w.heap.size) (hN : xs.length ≤ 140737488355328) (hcap : xs.length ≤ c) (hlen : (Lib.join (xs.map (·.data.toList)) sep.data.toList).length ≤ 140737488355328) :
    Calls Tryd.prog 30 #[.slice (some ⟨bk, o, none⟩) xs.length c, .string sep] w fun e w' => e = .returned (.string ⟨(Lib.join (xs.map (·.data.toList)) sep.data.toList).toArray⟩) ∧ Below w.heap.size w w' :=
  Any.strings_Join lays156 Builder_Extra_156 bk o c xs sep w hcells hbk hN hcap hlen
/-- The rule of isName. -/
def nmRule : List Sv → St → Tree FLeaf
  | [.one (.s v l)], σ => .must (decide (v.size ≤ 9223372036854775807)) (.leaf (.one (.b (nameB v) l), σ))
  | _, _ => .fail
theorem nmRule_ok {args : List Sv} {σ : St} {y : FLeaf} (hy : (nmRule args σ).At y) : FunOk Tryd.prog 38 args σ y.1 y.2 := by
  unfold nmRule at hy
  split at hy
  · rename_i v l
    obtain ⟨h1, h2⟩ := hy
    obtain rfl : _ = y := h2
    exact FunOk.of_any rfl fun e w => isName_any v w (of_decide_eq_true h1)
  · exact hy.elim
/-- The rule of FormatInt, to the base of 10. -/
def fmRule : List Sv → St → Tree FLeaf
  | [.one (.i .i64 n l), .one (.i .i64 10 _)], σ => .must (decide (-9223372036854775808 ≤ n ∧ n ≤ 9223372036854775807)) (.leaf (.one (.s ⟨(Lib.itoa n).toArray⟩ l), σ))
  | _, _ => .fail
theorem fmRule_ok {args : List Sv} {σ : St} {y : FLeaf} (hy : (fmRule args σ).At y) : FunOk Tryd.prog 29 args σ y.1 y.2 := by
  unfold fmRule at hy
  split at hy
  · rename_i n l l2
    obtain ⟨h1, h2⟩ := hy
    obtain rfl : _ = y := h2
    obtain ⟨a, b⟩ := of_decide_eq_true h1
    exact FunOk.of_anyG rfl fun e w hG => fmt_any n a b w hG.1
  · exact hy.elim
/-- The texts of some cells. -/
def strs : List Cv → Option (List ByteArray)
  | [] => some []
  | .s v _ :: cs => (strs cs).map (v :: ·)
  | _ :: _ => none
theorem strs_at : ∀ {cs : List Cv} {xs : List ByteArray}, strs cs = some xs → cs.length = xs.length ∧ ∀ (e : Env) (j : Nat) x, xs[j]? = some x → ∃ c, cs[j]? = some c ∧ c.den e = .string x
  | [], xs, h => by
    obtain rfl := Option.some.inj h
    exact ⟨rfl, fun e j x hx => by simp at hx⟩
  | c :: cs, xs, h => by
    cases c with
    | s v l =>
      obtain ⟨ys, hys, rfl⟩ := Option.map_eq_some_iff.1 (show (strs cs).map (v :: ·) = some xs from h)
      obtain ⟨h1, h2⟩ := strs_at hys
      refine ⟨by simp [h1], fun e j x hx => ?_⟩
      cases j with
      | zero =>
        obtain rfl : v = x := by simpa using hx
        exact ⟨_, rfl, rfl⟩
      | succ j => exact h2 e j x (by simpa using hx)
    | _ => cases h
def capIs (σ : St) (id n : Nat) : Sn → Bool
  | .lit c => Nat.ble n c
  | .nam c => capOf σ id c 1 n
  | .opq _ => false
/-- The rule of Join: a row that is written out. -/
def jnRule : List Sv → St → Tree FLeaf
  | [.one (.slc id (.lit off) (.lit n) cap), .one (.s sep _)], σ => match alook σ.bk id with
    | some (.ar _ _ l _) => match strs ((l.drop off).take n), Nat.ble (off + n) l.length && capIs σ id n cap with
      | some xs, true => .must (decide (n ≤ 140737488355328 ∧ (Lib.join (xs.map (·.data.toList)) sep.data.toList).length ≤ 140737488355328)) (.leaf (.one (.s ⟨(Lib.join (xs.map (·.data.toList)) sep.data.toList).toArray⟩ true), σ))
      | _, _ => .fail
    | _ => .fail
  | _, _ => .fail
theorem jnRule_ok {args : List Sv} {σ : St} {y : FLeaf} (hy : (jnRule args σ).At y) : FunOk Tryd.prog 30 args σ y.1 y.2 := by
  unfold jnRule at hy
  split at hy
  · rename_i id off n cap sep l
    split at hy
    · rename_i t ro cs cp hb
      split at hy
      · rename_i xs hxs hc
        simp only [Bool.and_eq_true] at hc
        obtain ⟨hle, hcp⟩ := hc
        rw [Nat.ble_eq] at hle
        obtain ⟨h1, h2⟩ := hy
        obtain rfl : _ = y := h2
        obtain ⟨a, b⟩ := of_decide_eq_true h1
        obtain ⟨k1, k2⟩ := strs_at hxs
        have hxl : xs.length = n := by rw [← k1, List.length_take, List.length_drop]; omega
        refine FunOk.of_w rfl fun C e w hp ha => ?_
        have hk : Sx.look σ (.k id) = some (.bk (.ar t ro cs.length cp)) := by simp only [Sx.look, hb]; rfl
        have hcap : n ≤ cap.den e := by
          cases cap with
          | lit c => exact Nat.le_of_ble_eq_true hcp
          | nam c => exact (capOf_le hcp hp rfl).1
          | opq c => cases hcp
        have h3 := join_any (e.pl id).1 ((e.pl id).2 + off) (cap.den e) xs sep w (fun j x hx => by
          obtain ⟨c, hc, hd⟩ := k2 e j x hx
          have hjn : j < n := by rw [← hxl]; exact (List.getElem?_eq_some_iff.1 hx).1
          rw [List.getElem?_take_of_lt hjn, List.getElem?_drop] at hc
          have hl : Sx.look σ (.c id (off + j)) = some (.cv c) := by simp only [Sx.look, hb, Option.bind_some, Blk.cell, hc, Option.map_some]
          obtain ⟨_, _, h5⟩ := hp.cl _ _ _ hl
          rw [hd] at h5
          unfold Env.ad at h5
          rw [← Nat.add_assoc] at h5
          exact h5) (hp.lt id _ hk rfl) (by omega) (by omega) b
        rw [hxl] at h3
        exact h3
      · exact hy.elim
    · exact hy.elim
  · exact hy.elim
def spD (f : FuncId) : Option (List Sv → St → Tree FLeaf) := match Nat.beq f 38 with
  | true => some nmRule
  | false => match Nat.beq f 29 with
    | true => some fmRule
    | false => match Nat.beq f 30 with
      | true => some jnRule
      | false => none
theorem spD_ok : SpOk Tryd.prog spD := by
  intro f g hf args σ y hy
  unfold spD at hf
  split at hf
  · rename_i h; obtain rfl := beq_iff'.1 h
    obtain rfl := Option.some.inj hf; exact nmRule_ok hy
  · split at hf
    · rename_i h; obtain rfl := beq_iff'.1 h
      obtain rfl := Option.some.inj hf; exact fmRule_ok hy
    · split at hf
      · rename_i h; obtain rfl := beq_iff'.1 h
        obtain rfl := Option.some.inj hf; exact jnRule_ok hy
      · cases hf
def exE : List Cv := [.i .i64 1 true, .i .i64 5 true, .i .i64 1000 true, .i .i64 2 true, .s ⟨#[98, 49]⟩ true, .s ⟨#[]⟩ true]
/-- The text of the example: made 5 1000 2 b1. -/
def exS : ByteArray := ⟨#[109, 97, 100, 101, 32, 53, 32, 49, 48, 48, 48, 32, 50, 32, 98, 49]⟩
/-- All ways lead to such a value. -/
def okV (p : Sv → Bool) : Tree FLeaf → Bool
  | .leaf y => p y.1
  | .must b t => b && okV p t
  | .br b t f => bif b then okV p t else okV p f
  | .fail => false
theorem okV_at {p : Sv → Bool} : ∀ {T : Tree FLeaf}, okV p T = true → ∃ y, T.At y ∧ p y.1 = true
  | .leaf y, h => ⟨y, rfl, h⟩
  | .must b t, h => by
    obtain ⟨h1, h2⟩ := Bool.and_eq_true_iff.1 (show (b && okV p t) = true from h)
    obtain ⟨y, h3, h4⟩ := okV_at h2
    exact ⟨y, ⟨h1, h3⟩, h4⟩
  | .br b t f, h => by
    have h' : (bif b then okV p t else okV p f) = true := h
    cases b with
    | true => obtain ⟨y, h3, h4⟩ := okV_at (T := t) h'; exact ⟨y, Or.inl ⟨rfl, h3⟩, h4⟩
    | false => obtain ⟨y, h3, h4⟩ := okV_at (T := f) h'; exact ⟨y, Or.inr ⟨rfl, h3⟩, h4⟩
theorem okV_fun {P : Program} {tb : Tb} {wf : List FuncId} {sp : FuncId → Option (List Sv → St → Tree FLeaf)} {fuel d f : Nat} (hT : TbOk P tb) (hm : P.follows .mixedOrders = true) (hs : SpOk P sp) {args : List Sv} {p : Sv → Bool}
    (h : okV p (evFn tb wf sp fuel d f args st0) = true) : ∃ y : FLeaf, p y.1 = true ∧ FunOk P f args st0 y.1 y.2 := by
  obtain ⟨y, h1, h2⟩ := okV_at h
  exact ⟨y, h2, evFn_at hT hm hs h1⟩
def isEx : Sv → Bool
  | .tup [(false, [.s x _]), (false, [.i .i64 n _])] => (x.data.toList == exS.data.toList) && decide (n = 0)
  | _ => false
theorem isEx_at {v : Sv} (h : isEx v = true) : ∃ l l2, v = .tup [(false, [.s exS l]), (false, [.i .i64 0 l2])] := by
  unfold isEx at h
  split at h
  · rename_i x l n l2
    rw [Bool.and_eq_true] at h
    obtain ⟨h1, h2⟩ := h
    obtain rfl := of_decide_eq_true h2
    have h3 := eq_of_beq h1
    obtain ⟨d⟩ := x
    have h4 : d = exS.data := Array.toList_inj.1 h3
    exact ⟨l, l2, by rw [h4]⟩
  · cases h
set_option maxRecDepth 100000 in
theorem exText : okV isEx (evFn tbl [31] spD 300 12 20 [.agg exE] st0) = true := by kernel_rfl
def exV : Value := .agg #[.int .i64 1, .int .i64 5, .int .i64 1000, .int .i64 2, .string ⟨#[98, 49]⟩, .string ⟨#[]⟩]
theorem exText_any (w : World) (hG : Glob0 w) : Calls Tryd.prog 20 #[exV] w fun e w' => e = .returned (.tuple #[.string exS, .int .i64 0]) ∧ Below w.heap.size w w' := by
  obtain ⟨y, h2, h1⟩ := okV_fun tbl_ok tbl_any spD_ok exText
  obtain ⟨l, l2, h3⟩ := isEx_at h2
  have h4 := h1.any (fun x hx => by
    obtain rfl := List.mem_singleton.1 hx
    rfl) (by rw [h3]; rfl) w hG
  rw [h3] at h4
  exact h4
end Go.Proofs.YtlhponankanlmaaDoor

/-
  The examples of the statements about package passport: works answers true.
-/
set_option linter.unusedSimpArgs false
set_option linter.unusedVariables false
namespace Go.Proofs.YtlhponankanlmaaDoor
open Sx Go.RowKit
theorem glob_step {w w' : World} (h : Glob0 w) (hb : Below w.heap.size w w') : Glob0 w' :=
  ⟨h.1.kept fun g hg => hb.block g (h.2 g hg).2, fun g hg => ⟨by have := (h.2 g hg).2; have := hb.size; omega, Nat.lt_of_lt_of_le (h.2 g hg).2 hb.size⟩⟩
theorem byt5 : Byt [5] := fun k => by
  match k with
  | 0 => decide
  | k + 1 => simp
theorem byt_one (W : World) (x : Nat) (T : TypeId) : BytV (some ⟨W.heap.size, 0, none⟩) [x] (W.alloc (.cells #[.int .u8 x] T)) := fun _ => by
  refine ⟨_, 0, rfl, by simp, fun k hk => ?_⟩
  obtain rfl : k = 0 := by simpa using hk
  go_simp
theorem ex_dig : digR 0 2 [5] = (30, 0) := by rfl
set_option maxHeartbeats 1000000 in
set_option maxRecDepth 20000 in
theorem works_any (w : World) (hG : Glob0 w) : Calls Tryd.prog 8 #[] w fun e w' => e = .returned (.bool true) ∧ Below w.heap.size w w' := by
  have CD := Lib.hid (fun W => Digest_any 0 2 1 (some ⟨w.heap.size, 0, none⟩) [5] W (by decide) byt5 (by decide))
  rw [ex_dig] at CD
  have CT := Lib.hid (fun W hG => exText_any W hG)
  have HB := Lib.hid (byt_one w 5 5)
  have HG := Lib.hid hG
  clear hG
  unfold exV exS at CT
  go_enter Tryd.func8, Tryd.ntmps8
  go_wp2_with (first | (go_at_call 9; refine (CD.out _ HB.out).mono ?_; rintro e w1 ⟨rfl, hb1⟩; have kb1 : Below w.heap.size w w1 := ((Below.refl _ _).alloc (Nat.le_refl _) _).trans (hb1.mono (by simp))) | (go_at_call 20; refine (CT.out _ (glob_step HG.out kb1)).mono ?_; rintro e w2 ⟨rfl, hb2⟩))
  go_ret
  exact ⟨rfl, bStep kb1 hb2⟩
end Go.Proofs.YtlhponankanlmaaDoor

/-
  The walk of the law PassportDigests.
-/
set_option linter.unusedSimpArgs false
set_option linter.unusedVariables false
namespace Go.Proofs.YtlhponankanlmaaDoor
open Sx Go.RowKit

set_option maxHeartbeats 2000000 in
set_option maxRecDepth 20000 in
theorem PassportDigests_walk (f : Int) (x pad : Nat) (a : Option Addr) (c : Nat) (m : List Nat) (n : Int) (w : World) (hx : x < 18446744073709551616) (hpad : pad < 18446744073709551616) (hB : Byt m) (hn0 : -9223372036854775808 ≤ n) (hn1 : n ≤ 9223372036854775807) (hA : BytV a m w) (hG : Glob0 w) :
    Calls Tryd.prog 5 #[.int .i64 f, .int .u64 x, .int .u64 pad, .slice a m.length c, .int .i64 n] w fun e w' => e = .returned (.bool true) ∧ Below w.heap.size w w' := by
  have CW := Lib.hid (fun W hG => works_any W hG)
  have HG := Lib.hid hG
  have HA := Lib.hid hA
  clear hG hA
  by_cases hl : 2000 < m.length
  · have hl' : 2000 < (m.length : Int) := by omega
    generalize m.length = L at *
    go_enter Tryd.func5, Tryd.ntmps5
    go_wp2_with (go_at_call 8; refine (CW.out _ HG.out).mono ?_; rintro e w1 ⟨rfl, hb⟩)
    go_ret
    exact ⟨rfl, hb⟩
  · have hl' : (m.length : Int) ≤ 2000 := by omega
    have hl2 : m.length ≤ 2000 := by omega
    have C1 := Lib.hid (fun W => Words_any f n W hn0 hn1)
    have C2 := Lib.hid (fun W => RWords_any f n W hn0 hn1)
    have C3 := Lib.hid (fun W hA => Digest_any f x c a m W hx hB hl2 hA)
    have C4 := Lib.hid (fun W hA => RDigest_any f x c a m W hx hB hl2 hA)
    have C5 := Lib.hid (fun W hA => Tag_any f x pad c a m W hx hpad hB hl2 hA)
    have C6 := Lib.hid (fun W hA => RTag_any f x pad c a m W hx hpad hB hl2 hA)
    generalize (wordsR f n).1 = r1 at *
    generalize (wordsR f n).2 = r2 at *
    generalize (digR f x m).1 = r3 at *
    generalize (digR f x m).2 = r4 at *
    generalize (tagR f x pad m).1 = r5 at *
    generalize (tagR f x pad m).2 = r6 at *
    go_enter Tryd.func5, Tryd.ntmps5
    go_wp2_with (first
      | (go_at_call 10; refine (C1.out _).mono ?_; rintro e w1 ⟨rfl, hb1⟩; have K1 := hb1)
      | (go_at_call 14; refine (C2.out _).mono ?_; rintro e w2 ⟨rfl, hb2⟩; have K2 := bStep K1 hb2)
      | (go_at_call 9; refine (C3.out _ (HA.out.step K2)).mono ?_; rintro e w3 ⟨rfl, hb3⟩; have K3 := bStep K2 hb3)
      | (go_at_call 15; refine (C4.out _ (HA.out.step K3)).mono ?_; rintro e w4 ⟨rfl, hb4⟩; have K4 := bStep K3 hb4)
      | (go_at_call 16; refine (C5.out _ (HA.out.step K4)).mono ?_; rintro e w5 ⟨rfl, hb5⟩; have K5 := bStep K4 hb5)
      | (go_at_call 17; refine (C6.out _ (HA.out.step K5)).mono ?_; rintro e w6 ⟨rfl, hb6⟩; have K6 := bStep K5 hb6)
      | (go_at_call 8; refine (CW.out _ (glob_step HG.out K6)).mono ?_; rintro e w7 ⟨rfl, hb7⟩))
    go_ret
    exact ⟨rfl, bStep K6 hb7⟩
end Go.Proofs.YtlhponankanlmaaDoor

/-
  From a row that lists variables to the walk: the variable of the powers of 10; a message opened as a list of bytes.
-/
set_option linter.unusedSimpArgs false
set_option linter.unusedVariables false
namespace Go.Proofs.YtlhponankanlmaaDoor
open Go.ChangeShapes Go.WideShapes Go.RowKit

theorem glob_of_laid {l : List (String × DataW Unit)} (hd : (l.all fun x => x.2.handleName?.isNone) = true)
    (hl : l.filter (fun x => x.1 == Sx.powN) = [(Sx.powN, Lib.tabData .u64 Lib.pow10Tab)]) {W : World} (h : laidMetH Tryd.prog l W) : Sx.Glob0 W := by
  rw [MakeChecks.laidMetH_plain _ _ _ hd] at h
  have h1 := h.filter (fun x => x.1 == Sx.powN)
  rw [hl] at h1
  exact Sx.glob0_of (Lib.tabIs_of_head (t := 108) (e := 24) (n := 20) Sx.powG_is (by kernel_rfl) Tryd.underlying108 Tryd.underlying24 (by kernel_rfl) (by kernel_rfl) h1)

section
variable {H : Type} {enc : TypeId × Value → H} {W : World} {held : Bool}
theorem byts_open {t e : TypeId} {n : Nat} {v : Value} {x : DataW H × List MemPlace} (ht : Tryd.prog.underlying t = some (.slice e)) (he : Tryd.prog.underlying e = some (.int .u8)) (hc : Tryd.prog.cellsOf e = 1) (h : DataW.trod enc Tryd.prog W 0 (fun _ => true) held n t [v] = some x) :
    ∃ (a : Option Addr) (c : Nat) (m : List Nat), v = .slice a m.length c ∧ m.length ≤ maxLen ∧ Byt m ∧ BytV a m W := by
  rcases open_ints ht he hc h with ⟨hcs, _⟩ | ⟨a, len, cap, zs, hcs, hb, hl, hm, hz, hx, hcell, hwf⟩
  · simp only [List.cons.injEq, and_true] at hcs
    exact ⟨none, 0, [], hcs, by decide, fun j => by simp, fun hn => absurd rfl hn⟩
  · simp only [List.cons.injEq, and_true] at hcs
    simp only [if_true] at hz
    have hlen : ((zs.take len).map Int.toNat).length = len := by simp; omega
    have hz8 : ∀ j, j < zs.length → 0 ≤ zs.getD j 0 ∧ zs.getD j 0 ≤ 255 := fun j hj => by
      have h1 := hwf _ (List.getElem_mem hj)
      rw [List.getD_eq_getElem?_getD, List.getElem?_eq_getElem hj]
      simp only [Lit.wf, Bool.and_eq_true, decide_eq_true_eq] at h1
      exact h1
    have hget : ∀ j, j < len → ((((zs.take len).map Int.toNat).getD j 0 : Nat) : Int) = zs.getD j 0 := fun j hj => by
      have hj2 : j < zs.length := by omega
      have h1 := hz8 j hj2
      have e1 : ((zs.take len).map Int.toNat).getD j 0 = (zs.getD j 0).toNat := by
        simp [List.getD_eq_getElem?_getD, List.getElem?_take_of_lt hj, List.getElem?_eq_getElem hj2]
      rw [e1]
      omega
    refine ⟨some a, cap, (zs.take len).map Int.toNat, by rw [hlen]; exact hcs, by rw [hlen]; omega, fun j => ?_, fun hn => ?_⟩
    · by_cases hj : j < len
      · have h1 := hget j hj
        have h2 := hz8 j (by omega)
        omega
      · rw [List.getD_eq_getElem?_getD, List.getElem?_eq_none (by omega)]
        decide
    · have h0 : 0 < len := by
        rcases Nat.eq_zero_or_pos len with e | e
        · subst e; exact absurd (by simp) hn
        · exact e
      obtain ⟨b, off, spot⟩ := a
      have hspot : spot = none := by simpa [Addr.add] using World.cell?_spot (hcell 0 (by omega))
      subst hspot
      have hadd : ∀ j, ((⟨b, off, none⟩ : Addr).add j) = ⟨b, off + j, none⟩ := fun j => by simp [Addr.add]
      have hc0 := hcell 0 (by omega)
      refine ⟨b, off, rfl, ?_, fun k hk => ?_⟩
      · rw [hadd] at hc0
        exact cell_lt hc0
      · rw [hlen] at hk
        rw [hget k hk, ← hadd]
        exact hcell k (by omega)
end
theorem byt_get {m : List Nat} (h : Byt m) : ∀ x ∈ m, x < 256 := fun x hx => by
  obtain ⟨j, hj, rfl⟩ := List.getElem_of_mem hx
  have := h j
  rwa [List.getD_eq_getElem?_getD, List.getElem?_eq_getElem hj] at this
theorem wf_u64 {n : Int} (h : (Lit.int .u64 n).wf = true) : ∃ k : Nat, n = (k : Int) ∧ k < 18446744073709551616 := by
  simp only [Lit.wf, Bool.and_eq_true, decide_eq_true_eq] at h
  have h1 : (0 : Int) ≤ n := h.1
  have h2 : n ≤ 18446744073709551615 := h.2
  exact ⟨n.toNat, by omega, by omega⟩
theorem wf_i64 {n : Int} (h : (Lit.int .i64 n).wf = true) : -9223372036854775808 ≤ n ∧ n ≤ 9223372036854775807 := by
  simp only [Lit.wf, Bool.and_eq_true, decide_eq_true_eq] at h
  exact h
end Go.Proofs.YtlhponankanlmaaDoor

/-
  passport.Fits: how many points and pads fit two messages with their tags.
-/
set_option linter.unusedSimpArgs false
set_option linter.unusedVariables false
namespace Go.Proofs.YtlhponankanlmaaDoor
open Go.RowKit

/-- Message a's tag less d is b's. -/
def hitp (p b : Nat) (m o : List Nat) (d : Int) (x : Nat) : Bool := decide (((dig p b x o : Int) - dig p b x m + d) % p = 0)
theorem dig_ltp {p : Nat} (hp : 0 < p) (b x : Nat) (m : List Nat) : dig p b x m < p := horner_lt hp x _
def fitsP (P b : Nat) (m k : List Nat) (tag forged : Nat) : Int × Int :=
  if 1000 < m.length ∨ 1000 < k.length then (0, 7) else if P ≤ tag ∨ P ≤ forged then (0, 3) else (((rts (hitp P b m k (tag - forged)) (P - 1)).length : Nat), 0)
def fitsR (n : Int) (m k : List Nat) (tag forged : Nat) : Int × Int := match fi n with
  | none => (0, 2)
  | some i => if 2 ≤ i then (0, 2) else fitsP (prim i) (i + 1) m k tag forged
theorem rts_more (f : Nat → Bool) (k : Nat) : (rts f (k + 1)).length = (rts f k).length + (if f (k + 1) then 1 else 0) := by
  show (if f (k + 1) = true then (((k : Nat) : Int) + 1) :: rts f k else rts f k).length = _
  cases f (k + 1) <;> simp
theorem rts_le (f : Nat → Bool) : ∀ k, (rts f k).length ≤ k
  | 0 => by simp [rts]
  | k + 1 => by rw [rts_more]; have := rts_le f k; split <;> omega
theorem fit_eq {P D E t g : Nat} (hP : P < 2147483648) (hD : D < P) (hE : E < P) (ht : t < P) (hg : g < P) :
    ((IntKind.u64.wrap ((E : Int) + t)).tmod P = (IntKind.u64.wrap ((D : Int) + g)).tmod P) ↔ ((E : Int) - D + ((t : Int) - g)) % P = 0 := by
  rw [Go.IntWalk.u64_in _ ⟨by omega, by omega⟩, Go.IntWalk.u64_in _ ⟨by omega, by omega⟩, Int.tmod_eq_emod_of_nonneg (by omega), Int.tmod_eq_emod_of_nonneg (by omega)]
  rw [show ((E : Int) - D + ((t : Int) - g)) = ((E : Int) + t) - ((D : Int) + g) by omega]
  exact Int.emod_eq_emod_iff_emod_sub_eq_zero
theorem getElem?_none_of {i : Nat} (h : i < 2) : prim i = 257 ∨ prim i = 65537 := by
  have : i = 0 ∨ i = 1 := by omega
  rcases this with rfl | rfl
  · exact Or.inl rfl
  · exact Or.inr rfl

/-- What fieldOf hands back. -/
def FieldC (P b : Nat) (n : Int) (W : World) : Prop := Calls Tryd.prog 21 #[.int .i64 n] W fun e w' => ∃ B off, e = .returned (.pointer (some ⟨B, off, none⟩)) ∧ W.heap.size ≤ B ∧ B < w'.heap.size ∧
  w'.cell? ⟨B, off, none⟩ = some (.int .u64 P) ∧ w'.cell? ⟨B, off + 1, none⟩ = some (.int .i64 b) ∧ Below W.heap.size W w'
def WStep (w : World) : Type := { W : World // Below w.heap.size w W }
instance (w : World) : Nonempty (WStep w) := ⟨⟨w, Below.refl _ _⟩⟩
def StepC (w : World) (W : World) : Prop := ∃ s : WStep w, W = s.1
theorem wp_region_step {P : Program} {id : Nat} {Q : Exit → Act → World → Prop} {a : Act} {w : World} {l : List Oper} (hm : P.follows .mixedOrders = true) (hB : Region.lexB .any l.toArray = true)
    (h : wpQuiet P l.toArray (fun W => ∃ s : WStep w, W = s.1) (fun a' => ∀ w', (∃ s : WStep w, w' = s.1) → Q .normal a' w') l a) : (Code.region id l.toArray true).wp P Q a w :=
  wp_region_quiet (C := fun W => ∃ s : WStep w, W = s.1) hm hB ⟨⟨w.drew, (Below.refl _ _).drew⟩, rfl⟩ (by simpa using h)

set_option maxHeartbeats 2000000 in
set_option maxRecDepth 20000 in
theorem Fits_in (n : Int) (hn : n = 0 ∨ n = 1) (P b : Nat) (hP : 257 ≤ P ∧ P < 2147483648) (hb1 : 1 ≤ b) (hb3 : b ≤ 3) (CF : Hid (∀ W, FieldC P b n W)) (a o : Option Addr) (c d : Nat) (m k : List Nat) (tag forged : Nat) (w : World) (ht : tag < 18446744073709551616) (hf : forged < 18446744073709551616) (hm : Byt m) (hk : Byt k) (hlm : m.length ≤ 2000) (hlk : k.length ≤ 2000) (HA : Hid (BytV a m w)) (HB : Hid (BytV o k w)) :
    ∀ r : Int × Int, r = fitsP P b m k tag forged →
    Calls Tryd.prog 12 #[.int .i64 n, .slice a m.length c, .int .u64 tag, .slice o k.length d, .int .u64 forged] w fun e w' => e = .returned (.tuple #[.int .i64 r.1, .int .i64 r.2]) ∧ Below w.heap.size w w' := by
  intro r hr
  unfold fitsP at hr
  by_cases hl : 1000 < m.length ∨ 1000 < k.length
  · rw [if_pos hl] at hr
    subst hr
    have hl2 : (m.length < k.length ∧ 1000 < (k.length : Int)) ∨ (¬ m.length < k.length ∧ 1000 < (m.length : Int)) := by omega
    clear hl
    generalize m.length = L at *
    generalize k.length = M at *
    rcases hl2 with ⟨h1, h2⟩ | ⟨h1, h2⟩ <;> rcases hn with rfl | rfl
    all_goals
      go_enter Tryd.func12, Tryd.ntmps12
      go_wp2_with fail
      exact bodyPost_ret (v := .tuple #[.int .i64 0, .int .i64 7]) (by simp only [results, Tryd.results12]; go_simp) rfl ⟨rfl, (by repeat' (first | exact Below.refl _ _ | assumption | apply bDrewN | apply bDrew | apply bAlloc | (refine bSet ?_ ?_ _) | (refine bStep ?_ (by assumption)) | omega | (simp <;> omega)))⟩
  · rw [if_neg hl] at hr
    have hl2 : (m.length < k.length ∧ (k.length : Int) ≤ 1000) ∨ (¬ m.length < k.length ∧ (m.length : Int) ≤ 1000) := by omega
    clear hl
    by_cases hp : P ≤ tag ∨ P ≤ forged
    · rw [if_pos hp] at hr
      subst hr
      have hp2 : (tag < forged ∧ (P : Int) ≤ forged) ∨ (¬ tag < forged ∧ (P : Int) ≤ tag) := by omega
      clear hp
      generalize m.length = L at *
      generalize k.length = M at *
      rcases hl2 with ⟨h1, h2⟩ | ⟨h1, h2⟩ <;> rcases hp2 with ⟨h3, h4⟩ | ⟨h3, h4⟩ <;> rcases hn with rfl | rfl
      all_goals
        go_enter Tryd.func12, Tryd.ntmps12
        go_wp2_with (go_at_call 21; refine (CF.out _).mono ?_; rintro e w1 ⟨B, off, rfl, hB1, hB2, hc1, hc2, hb⟩)
        exact bodyPost_ret (v := .tuple #[.int .i64 0, .int .i64 3]) (by simp only [results, Tryd.results12]; go_simp) rfl ⟨rfl, (by repeat' (first | exact Below.refl _ _ | assumption | apply bDrewN | apply bDrew | apply bAlloc | (refine bSet ?_ ?_ _) | (refine bStep ?_ (by assumption)) | omega | (simp <;> omega)))⟩
    · rw [if_neg hp] at hr
      have hp1 : tag < P := by omega
      have hp2 : forged < P := by omega
      have hmx : (if m.length < k.length then (k.length : Int) else m.length) ≤ 1000 := by split <;> omega
      have hmy : (if tag < forged then (forged : Int) else tag) < P := by split <;> omega
      clear hl2 hp
      have CD : Hid (∀ W x B off, 1 ≤ x → x < P → B < W.heap.size → W.cell? ⟨B, off, none⟩ = some (.int .u64 P) → W.cell? ⟨B, off + 1, none⟩ = some (.int .i64 b) → BytV a m W →
          Calls Tryd.prog 22 #[.pointer (some ⟨B, off, none⟩), .int .u64 (x : Nat), .slice a m.length c] W fun e w' => e = .returned (.int .u64 (dig P b x m)) ∧ Below W.heap.size W w') :=
        fun W x B off _ hx hB h1 h2 hA => digest_any P b x B off c a m W (by omega) hP.2 (by omega) hb1 hb3 hm hlm hB h1 h2 hA
      have CE : Hid (∀ W x B off, 1 ≤ x → x < P → B < W.heap.size → W.cell? ⟨B, off, none⟩ = some (.int .u64 P) → W.cell? ⟨B, off + 1, none⟩ = some (.int .i64 b) → BytV o k W →
          Calls Tryd.prog 22 #[.pointer (some ⟨B, off, none⟩), .int .u64 (x : Nat), .slice o k.length d] W fun e w' => e = .returned (.int .u64 (dig P b x k)) ∧ Below W.heap.size W w') :=
        fun W x B off _ hx hB h1 h2 hA => digest_any P b x B off d o k W (by omega) hP.2 (by omega) hb1 hb3 hk hlk hB h1 h2 hA
      have hst := Lib.hid (fun j => rts_more (hitp P b m k (tag - forged)) j)
      have hle := Lib.hid (fun j => rts_le (hitp P b m k (tag - forged)) j)
      have hhit : Hid (∀ x, (hitp P b m k (tag - forged) x = true) ↔ (IntKind.u64.wrap ((dig P b x k : Int) + tag)).tmod P = (IntKind.u64.wrap ((dig P b x m : Int) + forged)).tmod P) := fun x => by
        unfold hitp
        rw [decide_eq_true_iff]
        exact (fit_eq hP.2 (dig_ltp (by omega) b x m) (dig_ltp (by omega) b x k) hp1 hp2).symm
      have hPz : P ≠ 0 := by omega
      generalize hF : hitp P b m k (tag - forged) = F at *
      clear hF
      rcases hn with rfl | rfl
      all_goals
        go_enter Tryd.func12, Tryd.ntmps12
        go_wp2_with (go_at_call 21; refine (CF.out _).mono ?_; rintro e w1 ⟨B, off, rfl, hB1, hB2, hc1, hc2, hb⟩)
      all_goals
        go_loopw [13, 14] (fun v x wr => ∃ j : Nat, j ≤ P - 1 ∧ x = .int .u64 ((j : Int) + 1) ∧ v = .int .i64 ((rts F j).length : Nat) ∧ Below w1.heap.size w1 wr) (fun _ x _ => P - (intOf x).toNat)
        case atStart => exact ⟨0, by omega, by simp, by simp [rts], Below.refl _ _⟩
        case round =>
          obtain ⟨j, hj, rfl, rfl, kB⟩ := hrel
          have hcP := (kB.cell (p := ⟨B, off, none⟩) hB2).trans hc1
          by_cases hlt : j < P - 1
          · have hx : (j : Int) + 1 = ((j + 1 : Nat) : Int) := by omega
            rw [hx]
            clear hx
            have HR := Lib.hid hr
            clear hr
            have hs := hst.out j
            have hh := hhit.out (j + 1)
            have hle1 := hle.out j
            have C1 := Lib.hid (fun W h1 h2 h3 => CD.out W (j + 1) B off (by omega) (by omega) h1 h2 h3)
            have C2 := Lib.hid (fun W h1 h2 h3 => CE.out W (j + 1) B off (by omega) (by omega) h1 h2 h3)
            have hk1 : j + 1 ≤ P - 1 := by omega
            have hk2 : ((j + 1 : Nat) : Int) < P := by omega
            have HJ := Lib.hid (show ((j + 1 : Nat) : Int) = (j : Int) + 1 by omega)
            generalize hN : (rts F j).length = N at *
            generalize hN2 : (rts F (j + 1)).length = N2 at *
            have HN2 := Lib.hid hN2
            clear hN hN2
            generalize dig P b (j + 1) m = p at *
            generalize dig P b (j + 1) k = q at *
            generalize F (j + 1) = bb at *
            generalize j + 1 = j1 at *
            have HS := Lib.hid hs
            have HH := Lib.hid hh
            clear hs hh
            go_wp2_with fail
            have hcS : ∀ s : WStep wr, s.1.cell? ⟨B, off, none⟩ = some (.int .u64 P) := fun s => (s.2.cell (p := ⟨B, off, none⟩) (by have := kB.size; show B < _; omega)).trans hcP
            have hbz : B < wr.heap.size := by have := kB.size; omega
            have hcQ := (kB.cell (p := ⟨B, off + 1, none⟩) hB2).trans hc2
            have HA2 := Lib.hid ((HA.out.step hb).step kB)
            have HB2 := Lib.hid ((HB.out.step hb).step kB)
            have CC1 : ∀ s : WStep wr, Calls Tryd.prog 22 #[.pointer (some ⟨B, off, none⟩), .int .u64 (j1 : Nat), .slice a m.length c] s.1 fun e w' => e = .returned (.int .u64 p) ∧ ∃ t : WStep wr, w' = t.1 := fun s =>
              (C1.out s.1 (Nat.lt_of_lt_of_le hbz s.2.size) (hcS s) ((s.2.cell (p := ⟨B, off + 1, none⟩) hbz).trans hcQ) (HA2.out.step s.2)).mono fun e w' h => ⟨h.1, ⟨w', bStep s.2 h.2⟩, rfl⟩
            have CC2 : ∀ s : WStep wr, Calls Tryd.prog 22 #[.pointer (some ⟨B, off, none⟩), .int .u64 (j1 : Nat), .slice o k.length d] s.1 fun e w' => e = .returned (.int .u64 q) ∧ ∃ t : WStep wr, w' = t.1 := fun s =>
              (C2.out s.1 (Nat.lt_of_lt_of_le hbz s.2.size) (hcS s) ((s.2.cell (p := ⟨B, off + 1, none⟩) hbz).trans hcQ) (HB2.out.step s.2)).mono fun e w' h => ⟨h.1, ⟨w', bStep s.2 h.2⟩, rfl⟩
            have CX := Lib.hid CC1
            have CY := Lib.hid CC2
            clear CC1 CC2
            refine wp_region_step (by kernel_rfl) (by kernel_rfl) ?_
            repeat (quiet_step (first | (with_reducible exact CX.out _) | (with_reducible exact CY.out _)))
            refine wpQuiet_nil ?_
            intro _ hw'
            obtain ⟨⟨W2, hW2⟩, hw''⟩ := hw'
            dsimp only at hw''
            subst hw''
            go_wp2_with fail
            · rename_i hq
              have hb5 : bb = true := HH.out.2 (by simpa using hq)
              have hs5 := HS.out
              rw [hb5] at hs5
              refine ⟨⟨j1, hk1, rfl, ?_, bStep kB hW2⟩, by simp [intOf]; omega⟩
              rw [HN2.out, hs5]
              first | rfl | (push_cast; rfl)
            · rename_i hq
              have hb5 : bb = false := by
                cases bb
                · rfl
                · have := HH.out.1 rfl
                  rw [this] at hq
                  simp at hq
              have hs5 := HS.out
              rw [hb5] at hs5
              refine ⟨⟨j1, hk1, rfl, ?_, bStep kB hW2⟩, by simp [intOf]; omega⟩
              rw [HN2.out, hs5]
              rfl
          · have hj2 : j = P - 1 := by omega
            have hx : (j : Int) + 1 = (P : Int) := by omega
            rw [hx, hj2]
            have HR := Lib.hid hr
            clear hr
            clear hx hst hle hhit CD CE hj2 hj hlt
            generalize (rts F (P - 1)).length = N at *
            go_wp2_with fail
            exact bodyPost_ret (v := .tuple #[.int .i64 (N : Nat), .int .i64 0]) (by simp only [results, Tryd.results12]; go_simp) rfl ⟨by rw [HR.out], bStep hb kB⟩
set_option maxHeartbeats 2000000 in
set_option maxRecDepth 20000 in
theorem Fits_any (n : Int) (a o : Option Addr) (c d : Nat) (m k : List Nat) (tag forged : Nat) (w : World) (ht : tag < 18446744073709551616) (hf : forged < 18446744073709551616) (hm : Byt m) (hk : Byt k) (hlm : m.length ≤ 2000) (hlk : k.length ≤ 2000) (hA : BytV a m w) (hB : BytV o k w) :
    Calls Tryd.prog 12 #[.int .i64 n, .slice a m.length c, .int .u64 tag, .slice o k.length d, .int .u64 forged] w fun e w' => e = .returned (.tuple #[.int .i64 (fitsR n m k tag forged).1, .int .i64 (fitsR n m k tag forged).2]) ∧ Below w.heap.size w w' := by
  by_cases hn : n = 0 ∨ n = 1
  · obtain ⟨i, hi, he, hfi⟩ : ∃ i : Nat, i < 2 ∧ n = i ∧ fi n = some i := by
      rcases fi_cases n with ⟨h1, h2⟩ | ⟨i, hi, h1, h2⟩
      · omega
      · exact ⟨i, by omega, h1, h2⟩
    have e : fitsR n m k tag forged = fitsP (prim i) (i + 1) m k tag forged := by
      unfold fitsR
      rw [hfi]
      dsimp only
      rw [if_neg (show ¬ 2 ≤ i by omega)]
    exact Fits_in n hn (prim i) (i + 1) (prim_bd i) (by omega) (by omega) (by subst he; exact fun W => fieldOf_some i (by omega) W) a o c d m k tag forged w ht hf hm hk hlm hlk hA hB _ e
  · have e : fitsR n m k tag forged = (0, 2) := by
      unfold fitsR
      rcases fi_cases n with ⟨h1, h2⟩ | ⟨i, hi, rfl, h2⟩
      · rw [h2]
      · rw [h2]
        dsimp only
        rw [if_pos (by omega)]
    rw [e]
    have h0 : (n != 0) = true := by simp; omega
    have h1 : (n != 1) = true := by simp; omega
    clear hA hB hn e
    generalize m.length = L at *
    generalize k.length = M at *
    go_enter Tryd.func12, Tryd.ntmps12
    go_wp2_with fail
    exact bodyPost_ret (v := .tuple #[.int .i64 0, .int .i64 2]) (by simp only [results, Tryd.results12]; go_simp) rfl ⟨rfl, (by repeat' (first | exact Below.refl _ _ | assumption | apply bDrewN | apply bDrew | apply bAlloc | (refine bSet ?_ ?_ _) | (refine bStep ?_ (by assumption)) | omega | (simp <;> omega)))⟩
end Go.Proofs.YtlhponankanlmaaDoor
