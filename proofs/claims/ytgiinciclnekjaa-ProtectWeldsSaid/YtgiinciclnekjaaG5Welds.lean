/-
  A slice that is handed over: its cells.
-/
import Derived.Test.YtgiinciclnekjaaG4Welds
import Derived.DataReads
import Derived.Deep.Slices
import Derived.Test.YtgiinciclnekjaaG3Welds
import Derived.Test.YtgiinciclnekjaaProg
import Derived.KernelRfl
set_option linter.unusedSimpArgs false
set_option linter.unusedVariables false
namespace Go.Proofs.Ytgiinciclnekjaa
namespace Sx
open Go.RowKit

section
variable {P : Program} {tb : Tb} {H : Type} {enc : TypeId × Value → H} {w : World} {base : Nat} {spare : Nat → Bool} {held : Bool}
theorem cell_in {a : Addr} {v : Value} (h : w.cell? a = some v) : a.block < w.heap.size := by
  rcases Nat.lt_or_ge a.block w.heap.size with h1 | h1
  · exact h1
  · simp [World.cell?, Array.getElem?_eq_none h1] at h
/-- The cells of element j. -/
def elAt (f : Nat → Value) (sz j : Nat) : List Value := (List.range sz).map fun o => f (j * sz + o)
theorem open_rows (hT : TbOk P tb) {t te : TypeId} {i : TypeInfo} {ls : List Lf} {x : DataW H × List MemPlace} {v : Value} (ht : tb.und t = some (.slice te)) (hi : tb.info te = some i) (hl : leaves tb 20 te = some ls) (hsz : 0 < i.size) {n : Nat} (h : DataW.trod enc P w base spare held n t [v] = some x) :
    (∃ a c, v = .slice a 0 c) ∨ ∃ (b off len cap : Nat) (f : Nat → Value), v = .slice (some ⟨b, off, none⟩) len cap ∧ 0 < len ∧ len ≤ maxLen ∧ b < w.heap.size ∧ (∀ k, k < len * i.size → w.cell? ⟨b, off + k, none⟩ = some (f k)) ∧ ∀ j, j < len → All2 Lf.ok ls (elAt f i.size j) := by
  rcases Go.Deep.open_slice (hT.und ht) h with ⟨hcs, _⟩ | ⟨a, len, cap, m, n', D, Pl, hcs, hb, hle, hm, hmm, hx, hc⟩
  · simp only [List.cons.injEq, and_true] at hcs
    exact Or.inl ⟨none, 0, hcs⟩
  · simp only [List.cons.injEq, and_true] at hcs
    rcases Nat.eq_zero_or_pos len with h0 | h0
    · subst h0; exact Or.inl ⟨some a, cap, hcs⟩
    right
    have hlm : len ≤ m := by rw [hmm]; split <;> omega
    rw [cellsOf_info hT hi] at hc
    have each : ∀ j, j < len → ∃ cs', cs'.length = i.size ∧ (∀ o, o < i.size → w.cell? (a.add (j * i.size + o)) = cs'[o]?) ∧ All2 Lf.ok ls cs' := by
      intro j hj
      obtain ⟨cs', h1, h2⟩ := hc j (by omega)
      obtain ⟨_, q1, q2⟩ := World.cells?_some h1
      refine ⟨cs', q1, fun o ho => ?_, leaves_ok hT 20 te ls cs' n' _ hl h2⟩
      have := q2 o ho
      rwa [Go.Deep.add_add] at this
    have all : ∀ k, k < len * i.size → ∃ v, w.cell? (a.add k) = some v := by
      intro k hk
      obtain ⟨cs', q1, q2, _⟩ := each (k / i.size) (Nat.div_lt_of_lt_mul (by rw [Nat.mul_comm]; exact hk))
      have hmod : k % i.size < i.size := Nat.mod_lt _ hsz
      have := q2 (k % i.size) hmod
      rw [show k / i.size * i.size + k % i.size = k by rw [Nat.mul_comm]; exact Nat.div_add_mod k i.size] at this
      rw [this]
      exact ⟨_, List.getElem?_eq_getElem (by omega)⟩
    obtain ⟨v0, hv0⟩ := all 0 (Nat.mul_pos h0 hsz)
    obtain ⟨b, off, spot⟩ := a
    have hspot : spot = none := by simpa [Addr.add] using World.cell?_spot hv0
    subst hspot
    have hadd : ∀ j, ((⟨b, off, none⟩ : Addr).add j) = ⟨b, off + j, none⟩ := fun j => by
      unfold Addr.add
      by_cases e : j = 0
      · subst e; simp
      · simp [e]
    refine ⟨b, off, len, cap, fun k => (w.cell? ⟨b, off + k, none⟩).getD undef, hcs, h0, by omega, ?_, fun k hk => ?_, fun j hj => ?_⟩
    · rw [hadd] at hv0; exact cell_in hv0
    · obtain ⟨v, hv⟩ := all k hk
      rw [hadd] at hv
      show _ = some ((w.cell? ⟨b, off + k, none⟩).getD undef)
      rw [hv]; rfl
    · obtain ⟨cs', q1, q2, q3⟩ := each j hj
      have : elAt (fun k => (w.cell? ⟨b, off + k, none⟩).getD undef) i.size j = cs' := by
        apply List.ext_getElem?
        intro o
        unfold elAt
        by_cases ho : o < i.size
        · rw [List.getElem?_map, List.getElem?_range ho]
          have h2 := q2 o ho
          rw [hadd] at h2
          rw [Option.map_some]
          show some ((w.cell? ⟨b, off + (j * i.size + o), none⟩).getD undef) = _
          rw [h2, List.getElem?_eq_getElem (by omega)]
          rfl
        · rw [List.getElem?_eq_none (by simp; omega), List.getElem?_eq_none (by omega)]
      rw [this]; exact q3
theorem all2_isV : ∀ {ls : List Lf} {cs : List Value}, All2 Lf.ok ls cs → ∀ o, o < ls.length → (lfAt ls o).isV (cs.getD o undef) = true
  | _, _, .nil, o, h => by simp at h
  | l :: ls, c :: cs, .cons hc h, o, ho => by
    cases o with
    | zero =>
      show l.isV c = true
      cases l with
      | b => obtain ⟨b, rfl⟩ := hc; rfl
      | i k => obtain ⟨n, rfl, _⟩ := hc; simp [Lf.isV]
    | succ o =>
      have := all2_isV h o (by simpa using ho)
      simpa [lfAt] using this
/-- What is demanded where an element is read. -/
theorem rows_isV {f : Nat → Value} {ls : List Lf} {sz j : Nat} (h : All2 Lf.ok ls (elAt f sz j)) (hsz : ls.length = sz) : ((List.range sz).all fun o => (lfAt ls o).isV (f (0 + j * sz + o))) = true := by
  rw [List.all_eq_true]
  intro o ho
  have ho' : o < sz := List.mem_range.1 ho
  have := all2_isV h o (by omega)
  unfold elAt at this
  rw [List.getD_eq_getElem?_getD, List.getElem?_map, List.getElem?_range ho'] at this
  rw [Nat.zero_add]
  simpa using this
end
end Sx
end Go.Proofs.Ytgiinciclnekjaa

/-
  What is known of a function, carried into a caller's state: from facts about memory; a new row that is only read; a block with cells that nobody looks at.
-/
set_option linter.unusedSimpArgs false
set_option linter.unusedVariables false
namespace Go.Proofs.Ytgiinciclnekjaa
namespace Sx
open Go.RowKit

section
variable {P : Program} {tb : Tb}
/-- A function that hands back a value and leaves alone what was there, by what the state says of memory. -/
theorem FunOk.of_w {f : FuncId} {args : List Sv} {v : Sv} {σ : St} (hv : v.freeB = true) (h : ∀ (C : Ctx) (e : Env) (w : World), Hp C e (look σ) w → (∀ x ∈ args, x.sc (look σ)) → Calls P f (args.map (·.den e)).toArray w fun en w' => en = .returned (v.den e) ∧ Below w.heap.size w w') : FunOk P f args σ v σ := by
  refine ⟨fun C e w hp ha => ?_, KeepL.refl _⟩
  refine (h C e w hp ha).mono fun en w' => ?_
  rintro ⟨rfl, hb⟩
  exact ⟨e, Agree.refl _ _, hp.keep hb, rfl, Sv.free_sc hv _⟩
/-- A state that knows one more row, which is only read, and one more number. -/
def addOq (σ : St) (t : TypeId) (m : Nat) (f : Nat → Value) : St := { σ with bk := (σ.nx, .oq t true m f none) :: σ.bk, nx := σ.nx + 1, nl := σ.nn :: σ.nl, nn := σ.nn + 1 }
theorem addOq_agree {σ : St} {e : Env} {p : Nat × Nat} {m : Nat} (h1 : alook σ.bk σ.nx = none) (h2 : memb σ.nl σ.nn = false) : Agree (look σ) e (addEnv σ e p m) := addRo_agree h1 h2
theorem addOq_sub (σ : St) (t : TypeId) (m : Nat) (f : Nat → Value) : Sub (look σ) (look (addOq σ t m f)) := by
  refine ⟨fun id hid => ?_, fun c hc => ?_⟩
  · rw [kn_look] at hid ⊢
    simp only [addOq, alook]
    split
    · rfl
    · exact hid
  · rw [knn_look] at hc ⊢
    simp only [addOq, memb]
    split
    · rfl
    · exact hc
theorem Hp.addOq {C : Ctx} {e : Env} {σ : St} {w : World} (h : Hp C e (look σ) w) (h1 : alook σ.bk σ.nx = none) (h2 : memb σ.nl σ.nn = false) {t : TypeId} {m : Nat} {f : Nat → Value} {p : Nat × Nat} {k : Nat} (hp : p.1 < w.heap.size)
    (hnew : ∀ id b, look σ (.k id) = some (.bk b) → b.live = true → (e.pl id).1 ≠ p.1) (hc : ∀ j, j < m → w.cell? ⟨p.1, p.2 + j, none⟩ = some (f j)) : Hp C (addEnv σ e p k) (look (Sx.addOq σ t m f)) w := by
  have hA := addOq_agree (e := e) (p := p) (m := k) h1 h2
  have hS := addOq_sub σ t m f
  have kold : ∀ id, id ≠ σ.nx → look (Sx.addOq σ t m f) (.k id) = look σ (.k id) := fun id hid => by
    simp only [look, Sx.addOq, alook]
    rw [beq_ff.2 (Ne.symm hid)]
  have cold : ∀ id off, id ≠ σ.nx → look (Sx.addOq σ t m f) (.c id off) = look σ (.c id off) := fun id off hid => by
    simp only [look, Sx.addOq, alook]
    rw [beq_ff.2 (Ne.symm hid)]
  have knew : look (Sx.addOq σ t m f) (.k σ.nx) = some (.bk (.oq t true m f none)) := by
    simp only [look, Sx.addOq, alook, Nat.beq_refl]; rfl
  have cnew : ∀ off, look (Sx.addOq σ t m f) (.c σ.nx off) = none := fun off => by
    simp only [look, Sx.addOq, alook, Nat.beq_refl]; rfl
  have ad : ∀ id off, id ≠ σ.nx → (addEnv σ e p k).ad id off = e.ad id off := fun id off hid => by
    unfold Env.ad; show (⟨(if id = σ.nx then p else e.pl id).1, _, none⟩ : Addr) = _
    simp only [addEnv, if_neg hid]
  have pl : ∀ id, id ≠ σ.nx → (addEnv σ e p k).pl id = e.pl id := fun id hid => if_neg hid
  have pln : (addEnv σ e p k).pl σ.nx = p := if_pos rfl
  refine ⟨h.new, ?_, ?_, ?_, ?_, ?_, ?_, ?_, h.pin.mono hA hS, h.fr⟩
  · intro id off v hv
    by_cases hid : id = σ.nx
    · subst hid; rw [cnew] at hv; cases hv
    · rw [cold id off hid] at hv
      obtain ⟨q1, ⟨t', ro, n, cp, q2, q3⟩, q4⟩ := h.cl id off v hv
      refine ⟨q1.sub hS, ⟨t', ro, n, cp, by rw [kold id hid]; exact q2, q3⟩, ?_⟩
      rw [ad id off hid, Cv.den_agree hA q1]
      exact q4
  · intro id t' n cp hb off ho
    by_cases hid : id = σ.nx
    · subst hid; rw [knew] at hb; cases hb
    · rw [kold id hid] at hb
      rw [ad id off hid]
      exact h.ar id t' n cp hb off ho
  · intro id t' ro n f' cp hb off ho
    by_cases hid : id = σ.nx
    · subst hid
      rw [knew] at hb
      cases hb
      refine ⟨?_, fun h => by cases h⟩
      unfold Env.ad
      rw [pln]
      exact hc off ho
    · rw [kold id hid] at hb
      rw [ad id off hid]
      exact h.oq id t' ro n f' cp hb off ho
  · intro id b c es hb hcp
    by_cases hid : id = σ.nx
    · subst hid
      rw [knew] at hb
      obtain rfl : BI.oq t true m f none = b := by simpa using hb
      cases hcp
    · rw [kold id hid] at hb
      obtain ⟨q1, q2, cs', q3, q4, q5⟩ := h.cp id b c es hb hcp
      refine ⟨hS.2 c q1, by rw [pl id hid]; exact q2, cs', by rw [pl id hid]; exact q3, by rw [q4, hA.2 c q1], q5⟩
  · intro id id' b b' hb hb' hr hl hne
    by_cases hid : id = σ.nx
    · subst hid
      rw [knew] at hb
      obtain rfl : BI.oq t true m f none = b := by simpa using hb
      cases hr
    · rw [kold id hid] at hb
      rw [pl id hid]
      by_cases hid' : id' = σ.nx
      · subst hid'
        rw [pln]
        exact hnew id b hb (by cases b <;> first | rfl | cases hr)
      · rw [kold id' hid'] at hb'
        rw [pl id' hid']
        exact h.inj id id' b b' hb hb' hr hl hne
  · intro id b hb hl
    by_cases hid : id = σ.nx
    · subst hid; rw [pln]; exact hp
    · rw [kold id hid] at hb
      rw [pl id hid]
      exact h.lt id b hb hl
  · intro id b hb hr
    by_cases hid : id = σ.nx
    · subst hid
      rw [knew] at hb
      obtain rfl : BI.oq t true m f none = b := by simpa using hb
      cases hr
    · rw [kold id hid] at hb
      rw [pl id hid]
      exact h.mu id b hb hr
/-- A new row, and no error. -/
def NewOq (w w' : World) (n m : Nat) (f : Nat → Value) (en : Ending) : Prop := ∃ b off cap, en = .returned (.tuple #[.slice (some ⟨b, off, none⟩) n cap, .int .i64 0]) ∧ w.heap.size ≤ b ∧ b < w'.heap.size ∧ (∀ j, j < m → w'.cell? ⟨b, off + j, none⟩ = some (f j)) ∧ Below w.heap.size w w'
def oqSv (σ : St) (n : Nat) : Sv := .tup [(false, [.slc σ.nx (.lit 0) (.opq n) (.nam σ.nn)]), (false, [.i .i64 0 true])]
theorem FunOk.of_row {f : FuncId} {args : List Sv} {σ : St} {t : TypeId} {n m : Nat} {g : Nat → Value} (h1 : alook σ.bk σ.nx = none) (h2 : memb σ.nl σ.nn = false)
    (h : ∀ (C : Ctx) (e : Env) (w : World), Hp C e (look σ) w → (∀ x ∈ args, x.sc (look σ)) → Calls P f (args.map (·.den e)).toArray w fun en w' => NewOq w w' n m g en) : FunOk P f args σ (oqSv σ n) (addOq σ t m g) := by
  refine ⟨fun C e w hp ha => ?_, fun id off hk _ => ?_⟩
  case refine_2 =>
    have hne : id ≠ σ.nx := fun e => by rw [kn_look, e, h1] at hk; cases hk
    simp only [Sx.addOq, look, alook]
    rw [beq_ff.2 (Ne.symm hne)]
  refine (h C e w hp ha).mono fun en w' => ?_
  rintro ⟨b, off, cap, rfl, hlo, hhi, hcell, hb⟩
  refine ⟨addEnv σ e (b, off) cap, addOq_agree h1 h2, (hp.keep hb).addOq h1 h2 hhi (fun id bi hbi hl => ?_) hcell, ?_, ?_⟩
  · have := hp.lt id bi hbi hl
    show (e.pl id).1 ≠ b
    omega
  · have e1 : (addEnv σ e (b, off) cap).pl σ.nx = (b, off) := if_pos rfl
    have e2 : (addEnv σ e (b, off) cap).nm σ.nn = cap := if_pos rfl
    have e3 : (addEnv σ e (b, off) cap).ad σ.nx 0 = ⟨b, off, none⟩ := by unfold Env.ad; rw [e1]; rfl
    show Ending.returned (.tuple #[.slice (some ⟨b, off, none⟩) n cap, .int .i64 0]) = Ending.returned (.tuple #[.slice (some ((addEnv σ e (b, off) cap).ad σ.nx 0)) n ((addEnv σ e (b, off) cap).nm σ.nn), .int .i64 0])
    rw [e2, e3]
  · intro p hp
    simp only [List.mem_cons, List.not_mem_nil, or_false] at hp
    rcases hp with rfl | rfl
    · intro c hc
      obtain rfl : c = _ := by simpa using hc
      refine ⟨?_, trivial, trivial, ?_⟩
      · unfold kn; simp only [look, Sx.addOq, alook, Nat.beq_refl]; rfl
      · show knn _ _; unfold knn; simp only [look, Sx.addOq, memb, Nat.beq_refl]; rfl
    · intro c hc
      obtain rfl : c = _ := by simpa using hc
      exact trivial

/-- One block that may be written. -/
def st1 (T : TypeId) (cs : List Cv) : St := { tm := [], bk := [(1, .ar T false cs none)], nx := 2, nl := [], nn := 0, lg := [], vr := [] }
/-- A function that writes into one block, some cells of which it never looks at. -/
theorem FunOk.renU {f : FuncId} {args0 args : List Sv} {T : TypeId} {cs1 csN : List Cv} {σ : St} {v : Sv} {id : Nat}
    (H : ∀ e : Env, ∃ (cs : List Cv) (σ0' : St) (cs' : List Cv), FunOk P f args0 (st1 T cs) v σ0' ∧ alook σ0'.bk 1 = some (.ar T false cs' none) ∧ cs.all Cv.freeB = true ∧ cs'.all Cv.freeB = true ∧
      (∀ j : Nat, (cs1[j]?).map (Cv.den e) = (cs[j]?).map (Cv.den env0)) ∧ ∀ j : Nat, (csN[j]?).map (Cv.den e) = (cs'[j]?).map (Cv.den env0))
    (hb : alook σ.bk id = some (.ar T false cs1 none)) (hlenN : csN.length = cs1.length) (hsc : ∀ c ∈ csN, c.freeB = true ∨ c ∈ cs1)
    (ha : ∀ e : Env, args.map (·.den e) = args0.map (·.den (e.ren fun _ => id))) (hs : ∀ x ∈ args0, ∀ cs, x.sc (look (st1 T cs))) (hv : v.freeB = true) :
    FunOk P f args σ v (putC σ id csN) := by
  have hkeep : KeepL σ (putC σ id csN) := by
    intro i off _ hu
    by_cases hi : i = id
    · subst hi
      have hge : csN.length ≤ off := by
        rcases Nat.lt_or_ge off csN.length with h1 | h1
        · exfalso
          obtain ⟨v, hv⟩ := mem_cellWrs (id := i) (cs := csN) (o := 0) (j := off) h1
          have := List.all_eq_true.1 hu _ (List.mem_append_left _ (List.mem_reverse.2 hv))
          simp at this
        · exact h1
      simp only [look, putC, alook_amod, if_true, hb, Option.map_some, Option.bind_some, Blk.putL, Blk.cell]
      rw [List.getElem?_eq_none hge, List.getElem?_eq_none (by rw [← hlenN]; exact hge)]
    · simp only [look, putC, alook_amod, if_neg hi]
  refine ⟨fun C e w hp _ => ?_, hkeep⟩
  obtain ⟨cs, σ0', cs', h, hr, ics, ics', same1, same2⟩ := H e
  have k1 : look σ (.k id) = some (.bk (.ar T false cs1.length none)) := by simp only [look, hb]; rfl
  have hfd : ∀ {c : Cv}, c.freeB = true → ∀ e e' : Env, c.den e = c.den e' := fun {c} hc e e' => by
    have := Cv.den_agree (s := fun _ => none) (e := e') (e' := e) ⟨fun _ h => (by cases h), fun _ h => (by cases h)⟩ (Cv.free_sc hc _)
    exact this
  have hlen0 : cs.length = cs1.length := by
    rcases Nat.lt_trichotomy cs.length cs1.length with h1 | h1 | h1
    · have := same1 cs.length
      rw [List.getElem?_eq_getElem h1, List.getElem?_eq_none (Nat.le_refl _)] at this; cases this
    · exact h1
    · have := same1 cs1.length
      rw [List.getElem?_eq_none (Nat.le_refl _), List.getElem?_eq_getElem h1] at this; cases this
  have hlen' : cs'.length = csN.length := by
    rcases Nat.lt_trichotomy cs'.length csN.length with h1 | h1 | h1
    · have := same2 cs'.length
      rw [List.getElem?_eq_getElem h1, List.getElem?_eq_none (Nat.le_refl _)] at this; cases this
    · exact h1
    · have := same2 csN.length
      rw [List.getElem?_eq_none (Nat.le_refl _), List.getElem?_eq_getElem h1] at this; cases this
  let C1 : Ctx := ⟨fun k => k = (e.pl id).1 ∨ w.heap.size ≤ k, fun _ => none, fun _ => none, w⟩
  have one : ∀ i b, look (st1 T cs) (.k i) = some (.bk b) → i = 1 ∧ b = .ar T false cs.length none := by
    intro i b hib
    simp only [look, st1, alook] at hib
    cases h1 : Nat.beq 1 i with
    | true =>
      rw [h1] at hib
      obtain rfl := beq_iff'.1 h1
      exact ⟨rfl, by simpa [Blk.info] using hib.symm⟩
    | false => rw [h1] at hib; cases hib
  have hp0 : Hp C1 (e.ren fun _ => id) (look (st1 T cs)) w := by
    refine ⟨fun k hk => Or.inr hk, ?_, ?_, ?_, ?_, ?_, ?_, ?_, ⟨fun _ _ h => (by cases h), fun _ _ h => (by cases h)⟩, ⟨rfl, rfl, rfl, Nat.le_refl _, fun _ _ _ => rfl⟩⟩
    · intro i j c hc
      simp only [look, st1, alook] at hc
      cases h1 : Nat.beq 1 i with
      | true =>
        rw [h1] at hc
        obtain rfl := beq_iff'.1 h1
        obtain ⟨c', hc1, hc2⟩ := Option.map_eq_some_iff.1 (show (cs[j]?).map LV.cv = some (.cv c) from hc)
        obtain rfl : c' = c := by simpa using hc2
        have hfc := List.all_eq_true.1 ics _ (List.mem_of_getElem? hc1)
        refine ⟨Cv.free_sc hfc _, ⟨T, false, cs.length, none, rfl, (List.getElem?_eq_some_iff.1 hc1).1⟩, ?_⟩
        have h5 := same1 j
        have hlt1 : j < cs1.length := by rw [← hlen0]; exact (List.getElem?_eq_some_iff.1 hc1).1
        rw [hc1, List.getElem?_eq_getElem hlt1] at h5
        have h5 : (cs1[j]).den e = c'.den env0 := by simpa using h5
        have h6 : look σ (.c id j) = some (.cv cs1[j]) := by
          simp only [look, hb, Option.bind_some, Blk.cell, List.getElem?_eq_getElem hlt1, Option.map_some]
        obtain ⟨_, _, h7⟩ := hp.cl _ _ _ h6
        rw [h5, hfd hfc env0 (e.ren fun _ => id)] at h7
        exact h7
      | false => rw [h1] at hc; cases hc
    · intro i t n cp hi off ho
      obtain ⟨rfl, h2⟩ := one i _ hi
      cases h2
      exact hp.ar id T cs1.length none k1 off (by rw [← hlen0]; exact ho)
    · intro i t r n f cp hi
      obtain ⟨_, h2⟩ := one i _ hi
      cases h2
    · intro i b c es hi hcp
      obtain ⟨_, rfl⟩ := one i _ hi
      cases hcp
    · intro i j b b' hi hj _ _ hij
      obtain ⟨rfl, _⟩ := one i _ hi
      obtain ⟨rfl, _⟩ := one j _ hj
      exact absurd rfl hij
    · intro i b hi hl
      obtain ⟨rfl, _⟩ := one i _ hi
      exact hp.lt id _ k1 rfl
    · intro i b hi hrw
      obtain ⟨rfl, _⟩ := one i _ hi
      exact Or.inl rfl
  have h1 := h.run C1 (e.ren fun _ => id) w hp0 (fun x hx => hs x hx cs)
  rw [ha e]
  refine h1.mono fun en w' => ?_
  rintro ⟨e', hA, hp', rfl, -⟩
  have hpl : e'.pl 1 = e.pl id := hA.1 1 (by unfold kn; simp only [look, st1, alook]; rfl)
  have kk : ∀ i, look (putC σ id csN) (.k i) = look σ (.k i) := by
    intro i
    simp only [look, putC, alook_amod]
    split
    · rename_i e1
      subst e1
      rw [hb]
      simp only [Option.map_some, Blk.putL, Blk.info, hlenN]
    · rfl
  have kc : ∀ i off, i ≠ id → look (putC σ id csN) (.c i off) = look σ (.c i off) := by
    intro i off hi
    simp only [look, putC, alook_amod, if_neg hi]
  have kcid : ∀ off, look (putC σ id csN) (.c id off) = (csN[off]?).map .cv := by
    intro off
    simp only [look, putC, alook_amod, if_true, hb, Option.map_some, Option.bind_some, Blk.putL, Blk.cell]
  have hS : Sub (look σ) (look (putC σ id csN)) := ⟨fun i hi => by unfold kn at hi ⊢; rw [kk]; exact hi, fun _ hc => hc⟩
  have ad1 : ∀ off, e'.ad 1 off = e.ad id off := fun off => by
    unfold Env.ad; rw [hpl]
  have kr : look σ0' (.k 1) = some (.bk (.ar T false cs'.length none)) := by simp only [look, hr]; rfl
  have keep : ∀ i b, i ≠ id → look σ (.k i) = some (.bk b) → b.live = true → w'.heap[(e.pl i).1]? = w.heap[(e.pl i).1]? := by
    intro i b hi hbk hl
    refine hp'.fr.block _ (hp.lt i b hbk hl) ?_
    rintro (h2 | h2)
    · exact hp.inj id i _ b k1 hbk rfl hl (Ne.symm hi) h2.symm
    · have := hp.lt i b hbk hl
      omega
  refine ⟨e, Agree.refl _ _, ⟨hp.new, ?_, ?_, ?_, ?_, ?_, ?_, ?_, hp.pin.mono (Agree.refl _ _) hS, ?_⟩, by rw [Sv.free_den hv e' e], Sv.free_sc hv _⟩
  · intro i off x hx
    by_cases hi : i = id
    · subst hi
      rw [kcid] at hx
      obtain ⟨c2, hc2, hc3⟩ := Option.map_eq_some_iff.1 hx
      obtain rfl : c2 = x := by simpa using hc3
      have hlt := (List.getElem?_eq_some_iff.1 hc2).1
      refine ⟨?_, ⟨T, false, cs1.length, none, by rw [kk]; exact k1, by rw [← hlenN]; exact hlt⟩, ?_⟩
      · rcases hsc c2 (List.mem_of_getElem? hc2) with h2 | h2
        · exact Cv.free_sc h2 _
        · obtain ⟨j, hj⟩ := List.mem_iff_getElem?.1 h2
          have h6 : look σ (.c i j) = some (.cv c2) := by
            simp only [look, hb, Option.bind_some, Blk.cell, hj, Option.map_some]
          exact (hp.cl i j c2 h6).1.sub hS
      · have h5 := same2 off
        have hlt' : off < cs'.length := by rw [hlen']; exact hlt
        rw [hc2, List.getElem?_eq_getElem hlt'] at h5
        have h5 : c2.den e = (cs'[off]).den env0 := by simpa using h5
        have h7 := (hp'.cl 1 off cs'[off] (by simp only [look, hr, Option.bind_some, Blk.cell, List.getElem?_eq_getElem hlt']; rfl)).2.2
        rw [ad1] at h7
        rw [h7, h5, hfd (List.all_eq_true.1 ics' _ (List.getElem_mem hlt')) e' env0]
    · rw [kc i off hi] at hx
      obtain ⟨q1, ⟨t, r, n, cp, q2, q3⟩, q4⟩ := hp.cl i off x hx
      exact ⟨q1.sub hS, ⟨t, r, n, cp, by rw [kk]; exact q2, q3⟩, (World.cell?_of_block (w := w) (keep i _ hi q2 rfl)).trans q4⟩
  · intro i t n cp hx off ho
    rw [kk] at hx
    by_cases hi : i = id
    · subst hi
      rw [k1] at hx
      obtain ⟨rfl, rfl, rfl⟩ : T = t ∧ cs1.length = n ∧ none = cp := by simpa using hx
      have := hp'.ar 1 T cs'.length none kr off (by rw [hlen', hlenN]; exact ho)
      rw [ad1] at this
      exact this
    · have hk := keep i _ hi hx rfl
      have := hp.ar i t n cp hx off ho
      exact ⟨(World.frozen?_of_block (w := w) hk).trans this.1, by rw [World.cell?_of_block (w := w) hk]; exact this.2⟩
  · intro i t r n f cp hx off ho
    rw [kk] at hx
    by_cases hi : i = id
    · subst hi; rw [k1] at hx; cases hx
    · have hk := keep i _ hi hx rfl
      have := hp.oq i t r n f cp hx off ho
      exact ⟨(World.cell?_of_block (w := w) hk).trans this.1, fun hro => (World.frozen?_of_block (w := w) hk).trans (this.2 hro)⟩
  · intro i b c es hx hcp
    rw [kk] at hx
    by_cases hi : i = id
    · subst hi
      rw [k1] at hx
      obtain rfl : BI.ar T false cs1.length none = b := by simpa using hx
      cases hcp
    · have hl : b.live = true := by cases b <;> first | rfl | cases hcp
      obtain ⟨q1, q2, a, q3, q4⟩ := hp.cp i b c es hx hcp
      exact ⟨hS.2 c q1, q2, a, (keep i b hi hx hl).trans q3, q4⟩
  · intro i j b b' hi hj hrw hl hij
    rw [kk] at hi hj
    exact hp.inj i j b b' hi hj hrw hl hij
  · intro i b hi hl
    rw [kk] at hi
    exact Nat.lt_of_lt_of_le (hp.lt i b hi hl) hp'.fr.size
  · intro i b hi hrw
    rw [kk] at hi
    exact hp.mu i b hi hrw
  · have F := hp.fr
    have G := hp'.fr
    refine ⟨G.os.trans F.os, G.tape.trans F.tape, G.output.trans F.output, Nat.le_trans F.size G.size, fun k hk hM => ?_⟩
    refine (G.block k (Nat.lt_of_lt_of_le hk F.size) ?_).trans (F.block k hk hM)
    rintro (h2 | h2)
    · exact hM (h2 ▸ hp.mu id _ k1 rfl)
    · have : w.heap.size ≤ k := h2
      have := F.size
      omega
end
end Sx
end Go.Proofs.Ytgiinciclnekjaa

/-
  Votes and checks of guards, in plain numbers.
-/
set_option linter.unusedSimpArgs false
set_option linter.unusedVariables false
namespace Go.Proofs.Ytgiinciclnekjaa
open Sx

def lsG : List Lf := List.replicate 22 (.i .i64)
def lsC : List Lf := [.b, .i .i64, .i .i64, .i .i64, .i .i64, .i .i64]
def lsL : List Lf := lsC ++ lsC ++ lsC
def lsB : List Lf := [.b, .b, .b]

/-! Check -/
def cR (x : Int) : Bool := bif decide (x < 0) then true else decide (x > 1099511627776)
def cP (x : Int) : Bool := bif decide (x < 0) then true else !(bif decide (x ≥ -1099511627776) then decide (x ≤ 1099511627776) else false)
def tk (x : Int) : Bool := bif decide (x ≥ 1) then decide (x ≤ 100) else false
def ladder (e : Int) : List Bool → Int
  | [] => e
  | c :: cs => bif c then 2 else ladder e cs
def firstB : List Bool → Int → Int
  | [], _ => -1
  | c :: cs, k => bif c then k else firstB cs (k + 1)
def qsG (n : Nat → Int) : List Int := [n 0, n 1, n 2, n 3, n 4, n 5, n 21, n 6, n 7, n 8, n 9, n 10]
def dsG (n : Nat → Int) : List Int := [n 11, n 12, n 13, n 14, n 15, n 16, n 17]
def lastG (n : Nat → Int) : Bool := bif decide (n 18 < 1) then true else bif decide (n 18 > 65536) then true else bif !tk (n 19) then true else !tk (n 20)
def chkR (n : Nat → Int) : Int := ladder (ladder (bif lastG n then 2 else 0) ((dsG n).map fun x => !tk x)) ((qsG n).map cR)
def badP (n : Nat → Int) : Bool := bif decide (firstB ((qsG n).map cP) 0 ≥ 0) then true else decide (firstB ((dsG n).map fun x => !tk x) 0 ≥ 0)
def chkP (n : Nat → Int) : Int := bif (bif badP n then true else lastG n) then 2 else 0
theorem ladder_eq (e : Int) (l : List Bool) : ladder e l = if l.any id then 2 else e := by
  induction l with
  | nil => rfl
  | cons c l ih => cases c <;> simp [ladder, ih]
theorem firstB_eq (l : List Bool) : ∀ k : Int, 0 ≤ k → decide (firstB l k ≥ 0) = l.any id := by
  induction l with
  | nil => intro k _; rfl
  | cons c l ih =>
    intro k hk
    cases c with
    | true => simp [firstB, hk]
    | false => simp [firstB, ih (k + 1) (by omega)]
theorem cP_eq (x : Int) : cP x = cR x := by
  unfold cP cR
  by_cases h1 : x < 0
  · simp [h1]
  · have h2 : x ≥ -1099511627776 := by omega
    by_cases h3 : x ≤ 1099511627776
    · simp [h1, h2, h3, show ¬ 1099511627776 < x by omega]
    · simp [h1, h2, h3, show 1099511627776 < x by omega]
theorem chk_eq (n : Nat → Int) : chkP n = chkR n := by
  unfold chkP chkR badP
  rw [firstB_eq _ _ (by decide), firstB_eq _ _ (by decide), ladder_eq, ladder_eq, List.map_congr_left (fun x _ => cP_eq x)]
  cases ((qsG n).map cR).any id <;> cases ((dsG n).map fun x => !tk x).any id <;> cases lastG n <;> rfl

/-! The votes -/
def us (b c : Bool) : Bool := bif b then !c else false
def sk (b c : Bool) : Bool := bif !b then true else c
theorem sk_us (b c : Bool) : sk b c = !us b c := by cases b <;> cases c <;> rfl
def lo2 (a b : Int) : Int := bif decide (b < a) then b else a
def hi2 (a b : Int) : Int := bif decide (b < a) then a else b
def farV (a b s : Int) : Bool := decide (IntKind.u64.wrap (IntKind.u64.wrap (mm true a b) - IntKind.u64.wrap (mm false a b)) > IntKind.u64.wrap s)
def med (a b c : Int) : Int := bif decide (c < hi2 a b) then (bif decide (c < lo2 a b) then lo2 a b else c) else hi2 a b
def pLo (a b s : Int) : Int := bif !farV (lo2 a b) (hi2 a b) s then lo2 a b else 0
def pHi (a b s : Int) : Int := bif !farV (lo2 a b) (hi2 a b) s then hi2 a b else 0
def pOk (a b s : Int) : Bool := bif !farV (lo2 a b) (hi2 a b) s then true else false
/-- One of seven, by who may vote. -/
def sel {α : Type} (u0 u1 u2 : Bool) (all : α) (p : Int → Int → α) (z : α) (a b c : Int) : α :=
  bif u0 then (bif u1 then (bif u2 then all else p a b) else bif u2 then p a c else z) else bif u1 then (bif u2 then p b c else z) else bif u2 then z else z
def vLo (u0 u1 u2 : Bool) (a b c s : Int) : Int := sel u0 u1 u2 (med a b c) (fun a b => pLo a b s) 0 a b c
def vHi (u0 u1 u2 : Bool) (a b c s : Int) : Int := sel u0 u1 u2 (med a b c) (fun a b => pHi a b s) 0 a b c
def vOk (u0 u1 u2 : Bool) (a b c s : Int) : Bool := sel u0 u1 u2 true (fun a b => pOk a b s) false a b c
/-- The same, as the reference reckons. -/
def rSel {α : Type} (k0 k1 k2 : Bool) (all : Int → Int → α) (p : Int → Int → α) (z : α) (a b c : Int) : α :=
  bif k0 then (bif k1 then (bif k2 then z else z) else bif k2 then z else bif decide (b < c) then p b c else p c b)
  else bif k1 then (bif k2 then z else bif decide (a < c) then p a c else p c a)
  else bif decide (a < b) then (bif k2 then p a b else all a b) else (bif k2 then p b a else all b a)
def qLo (s a b : Int) : Int := bif !farV a b s then a else 0
def qHi (s a b : Int) : Int := bif !farV a b s then b else 0
def qOk (s a b : Int) : Bool := bif !farV a b s then true else false
def rMed (c a b : Int) : Int := bif decide (a < c) then (bif decide (b < c) then b else c) else a
def rTrue (c a b : Int) : Bool := bif decide (a < c) then (bif decide (b < c) then true else true) else true
def rLo (k0 k1 k2 : Bool) (a b c s : Int) : Int := rSel k0 k1 k2 (rMed c) (qLo s) 0 a b c
def rHi (k0 k1 k2 : Bool) (a b c s : Int) : Int := rSel k0 k1 k2 (rMed c) (qHi s) 0 a b c
def rOk (k0 k1 k2 : Bool) (a b c s : Int) : Bool := rSel k0 k1 k2 (rTrue c) (qOk s) false a b c
theorem rSel_eq {α : Type} (u0 u1 u2 : Bool) (all : α) (allR : Int → Int → α) (p q : Int → Int → α) (z : α) (a b c : Int) (hp : ∀ a b, p a b = bif decide (a < b) then q a b else q b a) (hall : (bif decide (a < b) then allR a b else allR b a) = all) :
    rSel (!u0) (!u1) (!u2) allR q z a b c = sel u0 u1 u2 all p z a b c := by
  unfold rSel sel
  simp only [hp]
  subst hall
  cases u0 <;> cases u1 <;> cases u2 <;> simp <;> (cases decide (a < b) <;> rfl)
theorem lo_eq (a b : Int) : lo2 a b = bif decide (a < b) then a else b := by
  unfold lo2
  by_cases h : b < a
  · simp [h, show ¬ a < b by omega]
  · by_cases h' : a < b
    · simp [h, h']
    · simp [h, h']; omega
theorem hi_eq (a b : Int) : hi2 a b = bif decide (a < b) then b else a := by
  unfold hi2
  by_cases h : b < a
  · simp [h, show ¬ a < b by omega]
  · by_cases h' : a < b
    · simp [h, h']
    · simp [h, h']; omega
theorem rMed_eq (a b c : Int) : (bif decide (a < b) then rMed c a b else rMed c b a) = med a b c := by
  unfold med
  rw [lo_eq, hi_eq]
  unfold rMed
  by_cases h : a < b <;> simp only [h, decide_true, decide_false, cond_true, cond_false, Bool.cond_decide] <;> (repeat' split) <;> omega
theorem rLo_eq (u0 u1 u2 : Bool) (a b c s : Int) : rLo (!u0) (!u1) (!u2) a b c s = vLo u0 u1 u2 a b c s :=
  rSel_eq u0 u1 u2 _ _ _ _ _ a b c (fun a b => by unfold pLo qLo; rw [lo_eq, hi_eq]; cases decide (a < b) <;> rfl) (rMed_eq a b c)
theorem rHi_eq (u0 u1 u2 : Bool) (a b c s : Int) : rHi (!u0) (!u1) (!u2) a b c s = vHi u0 u1 u2 a b c s :=
  rSel_eq u0 u1 u2 _ _ _ _ _ a b c (fun a b => by unfold pHi qHi; rw [lo_eq, hi_eq]; cases decide (a < b) <;> rfl) (rMed_eq a b c)
theorem rOk_eq (u0 u1 u2 : Bool) (a b c s : Int) : rOk (!u0) (!u1) (!u2) a b c s = vOk u0 u1 u2 a b c s :=
  rSel_eq u0 u1 u2 _ _ _ _ _ a b c (fun a b => by unfold pOk qOk; rw [lo_eq, hi_eq]; cases decide (a < b) <;> rfl) (by unfold rTrue; cases decide (a < b) <;> cases decide (a < c) <;> cases decide (b < c) <;> rfl)

/-! The numbers in order. -/
def numR (k0 k1 k2 : Bool) (a b c : Int) : Option (List Int) :=
  bif k0 then (bif k1 then (bif k2 then some [] else some [c]) else bif k2 then some [b] else bif decide (b < c) then some [b, c] else some [c, b])
  else bif k1 then (bif k2 then some [a] else bif decide (a < c) then some [a, c] else some [c, a])
  else bif decide (a < b) then (bif k2 then some [a, b] else bif decide (a < c) then (bif decide (b < c) then some [a, b, c] else some [a, c, b]) else some [c, a, b])
  else (bif k2 then some [b, a] else bif decide (b < c) then (bif decide (a < c) then some [b, a, c] else some [b, c, a]) else some [c, b, a])
def num2 (a b : Int) : List Int := [lo2 a b, hi2 a b]
def num3 (a b c : Int) : List Int := [lo2 (lo2 a b) c, med a b c, hi2 (hi2 a b) c]
def numS (u0 u1 u2 : Bool) (a b c : Int) : List Int :=
  bif u0 then (bif u1 then (bif u2 then num3 a b c else num2 a b) else bif u2 then num2 a c else [a]) else bif u1 then (bif u2 then num2 b c else [b]) else bif u2 then [c] else []
theorem num2_eq (a b : Int) : (bif decide (a < b) then some [a, b] else some [b, a]) = some (num2 a b) := by
  unfold num2
  rw [lo_eq, hi_eq]
  cases decide (a < b) <;> rfl
theorem lo_min (a b : Int) : lo2 a b = min a b := by
  rw [lo_eq]
  by_cases h : a < b
  · simp only [h, decide_true, cond_true]; omega
  · simp only [h, decide_false, cond_false]; omega
theorem hi_max (a b : Int) : hi2 a b = max a b := by
  rw [hi_eq]
  by_cases h : a < b
  · simp only [h, decide_true, cond_true]; omega
  · simp only [h, decide_false, cond_false]; omega
theorem med_mm (a b c : Int) : med a b c = max (min a b) (min (max a b) c) := by
  unfold med
  rw [lo_min, hi_max]
  by_cases h : c < max a b
  · simp only [h, decide_true, cond_true]
    by_cases h' : c < min a b
    · simp only [h', decide_true, cond_true]; omega
    · simp only [h', decide_false, cond_false]; omega
  · simp only [h, decide_false, cond_false]; omega
theorem num3_eq (a b c : Int) : numR false false false a b c = some (num3 a b c) := by
  unfold num3
  rw [med_mm, lo_min, lo_min, hi_max, hi_max]
  unfold numR
  by_cases h1 : a < b <;> by_cases h2 : a < c <;> by_cases h3 : b < c
  all_goals
    simp only [h1, h2, h3, decide_true, decide_false, cond_true, cond_false, Option.some.injEq, List.cons.injEq, and_true]
    refine ⟨by omega, by omega, by omega⟩
theorem numR_eq (u0 u1 u2 : Bool) (a b c : Int) : numR (!u0) (!u1) (!u2) a b c = some (numS u0 u1 u2 a b c) := by
  cases u0 <;> cases u1 <;> cases u2
  · rfl
  · rfl
  · rfl
  · exact num2_eq b c
  · rfl
  · exact num2_eq a c
  · show numR false false true a b c = some (num2 a b)
    rw [← num2_eq a b]
    rfl
  · exact num3_eq a b c
end Go.Proofs.Ytgiinciclnekjaa

/-
  The table of the program's types and functions.
-/
set_option linter.unusedSimpArgs false
set_option linter.unusedVariables false
namespace Go.Proofs.Ytgiinciclnekjaa
open Sx
set_option maxRecDepth 100000

noncomputable def tbl : Tb := { ty := [(0, Try.t0), (1, Try.t1), (2, Try.t2), (3, Try.t3), (4, Try.t4), (5, Try.t5), (6, Try.t6), (7, Try.t7), (8, Try.t8), (9, Try.t9), (10, Try.t10), (11, Try.t11), (12, Try.t12), (13, Try.t13), (14, Try.t14), (15, Try.t15), (16, Try.t16), (17, Try.t17), (18, Try.t18), (19, Try.t19), (20, Try.t20), (21, Try.t21), (22, Try.t22), (23, Try.t23), (24, Try.t24), (25, Try.t25), (26, Try.t26), (27, Try.t27), (28, Try.t28), (29, Try.t29), (30, Try.t30), (31, Try.t31), (32, Try.t32), (33, Try.t33), (34, Try.t34), (35, Try.t35), (36, Try.t36), (37, Try.t37), (38, Try.t38), (39, Try.t39), (40, Try.t40), (41, Try.t41), (42, Try.t42), (43, Try.t43), (44, Try.t44), (45, Try.t45), (46, Try.t46), (47, Try.t47), (48, Try.t48), (49, Try.t49), (50, Try.t50), (51, Try.t51), (52, Try.t52), (53, Try.t53), (54, Try.t54), (55, Try.t55), (56, Try.t56), (57, Try.t57), (58, Try.t58), (59, Try.t59), (60, Try.t60), (61, Try.t61), (62, Try.t62), (63, Try.t63), (64, Try.t64), (65, Try.t65), (66, Try.t66), (67, Try.t67), (68, Try.t68), (69, Try.t69), (70, Try.t70), (71, Try.t71), (72, Try.t72), (73, Try.t73), (74, Try.t74), (75, Try.t75), (76, Try.t76), (77, Try.t77), (78, Try.t78), (79, Try.t79), (80, Try.t80), (81, Try.t81), (82, Try.t82), (83, Try.t83), (84, Try.t84), (85, Try.t85), (86, Try.t86), (87, Try.t87), (88, Try.t88), (89, Try.t89), (90, Try.t90), (91, Try.t91), (92, Try.t92), (93, Try.t93), (94, Try.t94), (95, Try.t95), (96, Try.t96), (97, Try.t97), (98, Try.t98), (99, Try.t99), (100, Try.t100), (101, Try.t101), (102, Try.t102), (103, Try.t103), (104, Try.t104), (105, Try.t105), (106, Try.t106), (107, Try.t107), (108, Try.t108), (109, Try.t109), (110, Try.t110), (111, Try.t111), (112, Try.t112), (113, Try.t113), (114, Try.t114), (115, Try.t115), (116, Try.t116), (117, Try.t117), (118, Try.t118), (119, Try.t119), (120, Try.t120), (121, Try.t121), (122, Try.t122), (123, Try.t123), (124, Try.t124), (125, Try.t125), (126, Try.t126), (127, Try.t127), (128, Try.t128), (129, Try.t129), (130, Try.t130), (131, Try.t131), (132, Try.t132), (133, Try.t133), (134, Try.t134), (135, Try.t135), (136, Try.t136), (137, Try.t137), (138, Try.t138), (139, Try.t139), (140, Try.t140), (141, Try.t141), (142, Try.t142), (143, Try.t143), (144, Try.t144), (145, Try.t145), (146, Try.t146), (147, Try.t147), (148, Try.t148), (149, Try.t149), (150, Try.t150), (151, Try.t151), (152, Try.t152), (153, Try.t153), (154, Try.t154), (155, Try.t155), (156, Try.t156), (157, Try.t157), (158, Try.t158), (159, Try.t159), (160, Try.t160), (161, Try.t161), (162, Try.t162), (163, Try.t163), (164, Try.t164), (165, Try.t165), (166, Try.t166), (167, Try.t167), (168, Try.t168), (169, Try.t169), (170, Try.t170), (171, Try.t171), (172, Try.t172), (173, Try.t173), (174, Try.t174), (175, Try.t175), (176, Try.t176), (177, Try.t177), (178, Try.t178), (179, Try.t179), (180, Try.t180), (181, Try.t181), (182, Try.t182), (183, Try.t183), (184, Try.t184), (185, Try.t185), (186, Try.t186), (187, Try.t187), (188, Try.t188), (189, Try.t189), (190, Try.t190), (191, Try.t191), (192, Try.t192), (193, Try.t193), (194, Try.t194), (195, Try.t195), (196, Try.t196), (197, Try.t197), (198, Try.t198), (199, Try.t199), (200, Try.t200), (201, Try.t201), (202, Try.t202), (203, Try.t203), (204, Try.t204), (205, Try.t205), (206, Try.t206), (207, Try.t207), (208, Try.t208), (209, Try.t209), (210, Try.t210), (211, Try.t211), (212, Try.t212), (213, Try.t213), (214, Try.t214), (215, Try.t215), (216, Try.t216), (217, Try.t217), (218, Try.t218), (219, Try.t219), (220, Try.t220), (221, Try.t221), (222, Try.t222), (223, Try.t223), (224, Try.t224)], fn := [(2, Try.f2), (3, Try.f3), (4, Try.f4), (5, Try.f5), (6, Try.f6), (7, Try.f7), (8, Try.f8), (9, Try.f9), (10, Try.f10), (11, Try.f11), (12, Try.f12), (13, Try.f13), (14, Try.f14), (15, Try.f15), (16, Try.f16), (17, Try.f17), (18, Try.f18), (19, Try.f19), (20, Try.f20), (21, Try.f21), (22, Try.f22), (23, Try.f23), (24, Try.f24), (25, Try.f25), (26, Try.f26), (27, Try.f27), (28, Try.f28), (29, Try.f29), (30, Try.f30), (31, Try.f31), (32, Try.f32), (33, Try.f33), (34, Try.f34), (35, Try.f35), (36, Try.f36), (37, Try.f37), (38, Try.f38), (39, Try.f39), (40, Try.f40), (41, Try.f41), (42, Try.f42), (43, Try.f43), (44, Try.f44), (45, Try.f45), (46, Try.f46), (47, Try.f47), (48, Try.f48), (49, Try.f49), (50, Try.f50), (51, Try.f51), (52, Try.f52), (53, Try.f53), (54, Try.f54), (55, Try.f55), (56, Try.f56), (57, Try.f57), (58, Try.f58), (59, Try.f59), (60, Try.f60), (61, Try.f61), (62, Try.f62), (63, Try.f63), (64, Try.f64), (65, Try.f65), (66, Try.f66), (67, Try.f67), (68, Try.f68), (69, Try.f69), (70, Try.f70), (71, Try.f71), (72, Try.f72), (73, Try.f73), (74, Try.f74), (75, Try.f75), (76, Try.f76), (77, Try.f77), (78, Try.f78), (79, Try.f79), (80, Try.f80), (81, Try.f81), (82, Try.f82), (83, Try.f83), (84, Try.f84), (85, Try.f85), (86, Try.f86), (87, Try.f87), (88, Try.f88), (89, Try.f89), (90, Try.f90), (91, Try.f91), (92, Try.f92), (93, Try.f93), (94, Try.f94), (95, Try.f95), (96, Try.f96), (97, Try.f97), (98, Try.f98), (99, Try.f99), (100, Try.f100), (101, Try.f101), (102, Try.f102), (103, Try.f103), (104, Try.f104), (105, Try.f105), (106, Try.f106), (107, Try.f107), (108, Try.f108), (109, Try.f109), (110, Try.f110), (111, Try.f111), (112, Try.f112), (113, Try.f113), (114, Try.f114), (115, Try.f115), (116, Try.f116), (117, Try.f117), (118, Try.f118), (119, Try.f119), (120, Try.f120), (121, Try.f121), (122, Try.f122), (123, Try.f123), (124, Try.f124), (125, Try.f125)], eq := [7, 8, 22, 23, 24, 25, 34, 36, 37, 40, 41, 42, 43, 44, 53, 54, 62, 81, 82, 83, 84, 85, 87, 88, 93, 94, 95, 99, 100, 101, 103, 104, 105, 106, 107, 110, 111, 113, 114, 119, 120, 121, 122, 123, 124, 130, 131, 133, 134, 144, 145, 150, 151, 154, 155, 156, 157, 158, 159, 177, 178, 213] }
theorem tbl_ty : TyOk Try.prog tbl.ty := ⟨Try.type0, Try.type1, Try.type2, Try.type3, Try.type4, Try.type5, Try.type6, Try.type7, Try.type8, Try.type9, Try.type10, Try.type11, Try.type12, Try.type13, Try.type14, Try.type15, Try.type16, Try.type17, Try.type18, Try.type19, Try.type20, Try.type21, Try.type22, Try.type23, Try.type24, Try.type25, Try.type26, Try.type27, Try.type28, Try.type29, Try.type30, Try.type31, Try.type32, Try.type33, Try.type34, Try.type35, Try.type36, Try.type37, Try.type38, Try.type39, Try.type40, Try.type41, Try.type42, Try.type43, Try.type44, Try.type45, Try.type46, Try.type47, Try.type48, Try.type49, Try.type50, Try.type51, Try.type52, Try.type53, Try.type54, Try.type55, Try.type56, Try.type57, Try.type58, Try.type59, Try.type60, Try.type61, Try.type62, Try.type63, Try.type64, Try.type65, Try.type66, Try.type67, Try.type68, Try.type69, Try.type70, Try.type71, Try.type72, Try.type73, Try.type74, Try.type75, Try.type76, Try.type77, Try.type78, Try.type79, Try.type80, Try.type81, Try.type82, Try.type83, Try.type84, Try.type85, Try.type86, Try.type87, Try.type88, Try.type89, Try.type90, Try.type91, Try.type92, Try.type93, Try.type94, Try.type95, Try.type96, Try.type97, Try.type98, Try.type99, Try.type100, Try.type101, Try.type102, Try.type103, Try.type104, Try.type105, Try.type106, Try.type107, Try.type108, Try.type109, Try.type110, Try.type111, Try.type112, Try.type113, Try.type114, Try.type115, Try.type116, Try.type117, Try.type118, Try.type119, Try.type120, Try.type121, Try.type122, Try.type123, Try.type124, Try.type125, Try.type126, Try.type127, Try.type128, Try.type129, Try.type130, Try.type131, Try.type132, Try.type133, Try.type134, Try.type135, Try.type136, Try.type137, Try.type138, Try.type139, Try.type140, Try.type141, Try.type142, Try.type143, Try.type144, Try.type145, Try.type146, Try.type147, Try.type148, Try.type149, Try.type150, Try.type151, Try.type152, Try.type153, Try.type154, Try.type155, Try.type156, Try.type157, Try.type158, Try.type159, Try.type160, Try.type161, Try.type162, Try.type163, Try.type164, Try.type165, Try.type166, Try.type167, Try.type168, Try.type169, Try.type170, Try.type171, Try.type172, Try.type173, Try.type174, Try.type175, Try.type176, Try.type177, Try.type178, Try.type179, Try.type180, Try.type181, Try.type182, Try.type183, Try.type184, Try.type185, Try.type186, Try.type187, Try.type188, Try.type189, Try.type190, Try.type191, Try.type192, Try.type193, Try.type194, Try.type195, Try.type196, Try.type197, Try.type198, Try.type199, Try.type200, Try.type201, Try.type202, Try.type203, Try.type204, Try.type205, Try.type206, Try.type207, Try.type208, Try.type209, Try.type210, Try.type211, Try.type212, Try.type213, Try.type214, Try.type215, Try.type216, Try.type217, Try.type218, Try.type219, Try.type220, Try.type221, Try.type222, Try.type223, Try.type224, trivial⟩
theorem tbl_fn : FnOk Try.prog tbl.fn := ⟨⟨Try.func2, fun args w => Try.call2 args w⟩, ⟨Try.func3, fun args w => Try.call3 args w⟩, ⟨Try.func4, fun args w => Try.call4 args w⟩, ⟨Try.func5, fun args w => Try.call5 args w⟩, ⟨Try.func6, fun args w => Try.call6 args w⟩, ⟨Try.func7, fun args w => Try.call7 args w⟩, ⟨Try.func8, fun args w => Try.call8 args w⟩, ⟨Try.func9, fun args w => Try.call9 args w⟩, ⟨Try.func10, fun args w => Try.call10 args w⟩, ⟨Try.func11, fun args w => Try.call11 args w⟩, ⟨Try.func12, fun args w => Try.call12 args w⟩, ⟨Try.func13, fun args w => Try.call13 args w⟩, ⟨Try.func14, fun args w => Try.call14 args w⟩, ⟨Try.func15, fun args w => Try.call15 args w⟩, ⟨Try.func16, fun args w => Try.call16 args w⟩, ⟨Try.func17, fun args w => Try.call17 args w⟩, ⟨Try.func18, fun args w => Try.call18 args w⟩, ⟨Try.func19, fun args w => Try.call19 args w⟩, ⟨Try.func20, fun args w => Try.call20 args w⟩, ⟨Try.func21, fun args w => Try.call21 args w⟩, ⟨Try.func22, fun args w => Try.call22 args w⟩, ⟨Try.func23, fun args w => Try.call23 args w⟩, ⟨Try.func24, fun args w => Try.call24 args w⟩, ⟨Try.func25, fun args w => Try.call25 args w⟩, ⟨Try.func26, fun args w => Try.call26 args w⟩, ⟨Try.func27, fun args w => Try.call27 args w⟩, ⟨Try.func28, fun args w => Try.call28 args w⟩, ⟨Try.func29, fun args w => Try.call29 args w⟩, ⟨Try.func30, fun args w => Try.call30 args w⟩, ⟨Try.func31, fun args w => Try.call31 args w⟩, ⟨Try.func32, fun args w => Try.call32 args w⟩, ⟨Try.func33, fun args w => Try.call33 args w⟩, ⟨Try.func34, fun args w => Try.call34 args w⟩, ⟨Try.func35, fun args w => Try.call35 args w⟩, ⟨Try.func36, fun args w => Try.call36 args w⟩, ⟨Try.func37, fun args w => Try.call37 args w⟩, ⟨Try.func38, fun args w => Try.call38 args w⟩, ⟨Try.func39, fun args w => Try.call39 args w⟩, ⟨Try.func40, fun args w => Try.call40 args w⟩, ⟨Try.func41, fun args w => Try.call41 args w⟩, ⟨Try.func42, fun args w => Try.call42 args w⟩, ⟨Try.func43, fun args w => Try.call43 args w⟩, ⟨Try.func44, fun args w => Try.call44 args w⟩, ⟨Try.func45, fun args w => Try.call45 args w⟩, ⟨Try.func46, fun args w => Try.call46 args w⟩, ⟨Try.func47, fun args w => Try.call47 args w⟩, ⟨Try.func48, fun args w => Try.call48 args w⟩, ⟨Try.func49, fun args w => Try.call49 args w⟩, ⟨Try.func50, fun args w => Try.call50 args w⟩, ⟨Try.func51, fun args w => Try.call51 args w⟩, ⟨Try.func52, fun args w => Try.call52 args w⟩, ⟨Try.func53, fun args w => Try.call53 args w⟩, ⟨Try.func54, fun args w => Try.call54 args w⟩, ⟨Try.func55, fun args w => Try.call55 args w⟩, ⟨Try.func56, fun args w => Try.call56 args w⟩, ⟨Try.func57, fun args w => Try.call57 args w⟩, ⟨Try.func58, fun args w => Try.call58 args w⟩, ⟨Try.func59, fun args w => Try.call59 args w⟩, ⟨Try.func60, fun args w => Try.call60 args w⟩, ⟨Try.func61, fun args w => Try.call61 args w⟩, ⟨Try.func62, fun args w => Try.call62 args w⟩, ⟨Try.func63, fun args w => Try.call63 args w⟩, ⟨Try.func64, fun args w => Try.call64 args w⟩, ⟨Try.func65, fun args w => Try.call65 args w⟩, ⟨Try.func66, fun args w => Try.call66 args w⟩, ⟨Try.func67, fun args w => Try.call67 args w⟩, ⟨Try.func68, fun args w => Try.call68 args w⟩, ⟨Try.func69, fun args w => Try.call69 args w⟩, ⟨Try.func70, fun args w => Try.call70 args w⟩, ⟨Try.func71, fun args w => Try.call71 args w⟩, ⟨Try.func72, fun args w => Try.call72 args w⟩, ⟨Try.func73, fun args w => Try.call73 args w⟩, ⟨Try.func74, fun args w => Try.call74 args w⟩, ⟨Try.func75, fun args w => Try.call75 args w⟩, ⟨Try.func76, fun args w => Try.call76 args w⟩, ⟨Try.func77, fun args w => Try.call77 args w⟩, ⟨Try.func78, fun args w => Try.call78 args w⟩, ⟨Try.func79, fun args w => Try.call79 args w⟩, ⟨Try.func80, fun args w => Try.call80 args w⟩, ⟨Try.func81, fun args w => Try.call81 args w⟩, ⟨Try.func82, fun args w => Try.call82 args w⟩, ⟨Try.func83, fun args w => Try.call83 args w⟩, ⟨Try.func84, fun args w => Try.call84 args w⟩, ⟨Try.func85, fun args w => Try.call85 args w⟩, ⟨Try.func86, fun args w => Try.call86 args w⟩, ⟨Try.func87, fun args w => Try.call87 args w⟩, ⟨Try.func88, fun args w => Try.call88 args w⟩, ⟨Try.func89, fun args w => Try.call89 args w⟩, ⟨Try.func90, fun args w => Try.call90 args w⟩, ⟨Try.func91, fun args w => Try.call91 args w⟩, ⟨Try.func92, fun args w => Try.call92 args w⟩, ⟨Try.func93, fun args w => Try.call93 args w⟩, ⟨Try.func94, fun args w => Try.call94 args w⟩, ⟨Try.func95, fun args w => Try.call95 args w⟩, ⟨Try.func96, fun args w => Try.call96 args w⟩, ⟨Try.func97, fun args w => Try.call97 args w⟩, ⟨Try.func98, fun args w => Try.call98 args w⟩, ⟨Try.func99, fun args w => Try.call99 args w⟩, ⟨Try.func100, fun args w => Try.call100 args w⟩, ⟨Try.func101, fun args w => Try.call101 args w⟩, ⟨Try.func102, fun args w => Try.call102 args w⟩, ⟨Try.func103, fun args w => Try.call103 args w⟩, ⟨Try.func104, fun args w => Try.call104 args w⟩, ⟨Try.func105, fun args w => Try.call105 args w⟩, ⟨Try.func106, fun args w => Try.call106 args w⟩, ⟨Try.func107, fun args w => Try.call107 args w⟩, ⟨Try.func108, fun args w => Try.call108 args w⟩, ⟨Try.func109, fun args w => Try.call109 args w⟩, ⟨Try.func110, fun args w => Try.call110 args w⟩, ⟨Try.func111, fun args w => Try.call111 args w⟩, ⟨Try.func112, fun args w => Try.call112 args w⟩, ⟨Try.func113, fun args w => Try.call113 args w⟩, ⟨Try.func114, fun args w => Try.call114 args w⟩, ⟨Try.func115, fun args w => Try.call115 args w⟩, ⟨Try.func116, fun args w => Try.call116 args w⟩, ⟨Try.func117, fun args w => Try.call117 args w⟩, ⟨Try.func118, fun args w => Try.call118 args w⟩, ⟨Try.func119, fun args w => Try.call119 args w⟩, ⟨Try.func120, fun args w => Try.call120 args w⟩, ⟨Try.func121, fun args w => Try.call121 args w⟩, ⟨Try.func122, fun args w => Try.call122 args w⟩, ⟨Try.func123, fun args w => Try.call123 args w⟩, ⟨Try.func124, fun args w => Try.call124 args w⟩, ⟨Try.func125, fun args w => Try.call125 args w⟩, trivial⟩
theorem tbl_eq : (tbl.eq.all fun t => !Try.prog.stoodInHeld t && !Try.prog.eqGuardType Try.prog.depth t) = true := by kernel_rfl
theorem tbl_ok : TbOk Try.prog tbl := ⟨tbl_ty, tbl_fn, fun t ht => by
  have h := List.all_eq_true.1 tbl_eq t ht
  simpa using h⟩
theorem tbl_any : Try.prog.follows .mixedOrders = true := by kernel_rfl
end Go.Proofs.Ytgiinciclnekjaa

/-
  Rules of small functions that the statements about package protect reach.
-/
set_option linter.unusedSimpArgs false
set_option linter.unusedVariables false
namespace Go.Proofs.Ytgiinciclnekjaa
open Sx Go.RowKit
set_option maxRecDepth 100000
def ruleLess : List Sv → Option Sv
  | [.one (.i .i64 a la), .one (.i .i64 b lb)] => some (.one (.b (decide (a < b)) (la && lb)))
  | _ => none
theorem less_shape (a b : Int) : isB (evFn tbl [] (fun _ => none) 100 4 114 [.one (.i .i64 a false), .one (.i .i64 b false)] st0) = true := by kernel_rfl
theorem less_reads (a b : Int) : rdB (evFn tbl [] (fun _ => none) 100 4 114 [.one (.i .i64 a false), .one (.i .i64 b false)] st0) =
    bif a != a then (bif !(b != b) then true else decide (a < b)) else decide (a < b) := by kernel_rfl
theorem less_ok : RuleOk Try.prog 114 ruleLess := by
  intro args v h
  unfold ruleLess at h
  split at h
  · rename_i a la b lb
    obtain rfl := Option.some.inj h
    exact ⟨rfl, fun e w => bool_any tbl_ok tbl_any spNone (args := [.one (.i .i64 a false), .one (.i .i64 b false)]) (fun x hx => by
      simp only [List.mem_cons, List.not_mem_nil, or_false] at hx
      rcases hx with rfl | rfl <;> rfl) (less_shape a b) ((less_reads a b).trans (by simp)) e w⟩
  · cases h
end Go.Proofs.Ytgiinciclnekjaa
