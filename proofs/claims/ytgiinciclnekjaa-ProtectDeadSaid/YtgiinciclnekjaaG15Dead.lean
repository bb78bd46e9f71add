/-
  A function that hands back a new row of numbers.
-/
import Derived.Test.YtgiinciclnekjaaG3Dead
set_option linter.unusedSimpArgs false
set_option linter.unusedVariables false
namespace Go.Proofs.Ytgiinciclnekjaa
namespace Sx
open Go.RowKit

section
variable {P : Program} {tb : Tb}
/-- A state that knows one more block, and one more number. -/
def addRo (σ : St) (t : TypeId) (cs : List Cv) : St := { σ with bk := (σ.nx, .ar t false cs none) :: σ.bk, nx := σ.nx + 1, nl := σ.nn :: σ.nl, nn := σ.nn + 1 }
def addEnv (σ : St) (e : Env) (p : Nat × Nat) (m : Nat) : Env := ⟨fun id => if id = σ.nx then p else e.pl id, fun c => if c = σ.nn then m else e.nm c⟩
theorem kn_look {σ : St} {id : Nat} : kn (look σ) id ↔ (alook σ.bk id).isSome = true := by
  unfold kn
  simp only [look, Option.isSome_map]
theorem knn_look {σ : St} {c : Nat} : knn (look σ) c ↔ memb σ.nl c = true := by
  unfold knn
  simp only [look]
  split
  · rename_i h; simp [h]
  · rename_i h; simp [h]
theorem addRo_agree {σ : St} {e : Env} {p : Nat × Nat} {m : Nat} (h1 : alook σ.bk σ.nx = none) (h2 : memb σ.nl σ.nn = false) : Agree (look σ) e (addEnv σ e p m) := by
  refine ⟨fun id hid => ?_, fun c hc => ?_⟩
  · have : id ≠ σ.nx := fun e => by rw [kn_look, e, h1] at hid; cases hid
    exact if_neg this
  · have : c ≠ σ.nn := fun e => by rw [knn_look, e, h2] at hc; cases hc
    exact if_neg this
theorem addRo_sub (σ : St) (t : TypeId) (cs : List Cv) : Sub (look σ) (look (addRo σ t cs)) := by
  refine ⟨fun id hid => ?_, fun c hc => ?_⟩
  · rw [kn_look] at hid ⊢
    simp only [addRo, alook]
    split
    · rfl
    · exact hid
  · rw [knn_look] at hc ⊢
    simp only [addRo, memb]
    split
    · rfl
    · exact hc
theorem Hp.addRo {C : Ctx} {e : Env} {σ : St} {w : World} (h : Hp C e (look σ) w) (h1 : alook σ.bk σ.nx = none) (h2 : memb σ.nl σ.nn = false) {t : TypeId} {cs : List Cv} (hf : cs.all Cv.freeB = true) {p : Nat × Nat} {m : Nat} (hp : p.1 < w.heap.size)
    (hnew : ∀ id b, look σ (.k id) = some (.bk b) → b.live = true → (e.pl id).1 ≠ p.1) (hM : C.M p.1) (hfz : ∀ j, j < cs.length → w.frozen? ⟨p.1, p.2 + j, none⟩ = false) (hc : ∀ j c, cs[j]? = some c → w.cell? ⟨p.1, p.2 + j, none⟩ = some (c.den e)) : Hp C (addEnv σ e p m) (look (Sx.addRo σ t cs)) w := by
  have hA := addRo_agree (e := e) (p := p) (m := m) h1 h2
  have hS := addRo_sub σ t cs
  have kold : ∀ id, id ≠ σ.nx → look (Sx.addRo σ t cs) (.k id) = look σ (.k id) := fun id hid => by
    simp only [look, Sx.addRo, alook]
    rw [beq_ff.2 (Ne.symm hid)]
  have cold : ∀ id off, id ≠ σ.nx → look (Sx.addRo σ t cs) (.c id off) = look σ (.c id off) := fun id off hid => by
    simp only [look, Sx.addRo, alook]
    rw [beq_ff.2 (Ne.symm hid)]
  have knew : look (Sx.addRo σ t cs) (.k σ.nx) = some (.bk (.ar t false cs.length none)) := by
    simp only [look, Sx.addRo, alook, Nat.beq_refl]; rfl
  have cnew : ∀ off, look (Sx.addRo σ t cs) (.c σ.nx off) = (cs[off]?).map .cv := fun off => by
    simp only [look, Sx.addRo, alook, Nat.beq_refl]; rfl
  have ad : ∀ id off, id ≠ σ.nx → (addEnv σ e p m).ad id off = e.ad id off := fun id off hid => by
    unfold Env.ad; show (⟨(if id = σ.nx then p else e.pl id).1, _, none⟩ : Addr) = _
    simp only [addEnv, if_neg hid]
  have pl : ∀ id, id ≠ σ.nx → (addEnv σ e p m).pl id = e.pl id := fun id hid => if_neg hid
  have pln : (addEnv σ e p m).pl σ.nx = p := if_pos rfl
  refine ⟨h.new, ?_, ?_, ?_, ?_, ?_, ?_, ?_, h.pin.mono hA hS, h.fr⟩
  · intro id off v hv
    by_cases hid : id = σ.nx
    · subst hid
      rw [cnew] at hv
      obtain ⟨c, hc1, hc2⟩ := Option.map_eq_some_iff.1 hv
      obtain rfl : c = v := by simpa using hc2
      have hfc := List.all_eq_true.1 hf c (List.mem_of_getElem? hc1)
      refine ⟨Cv.free_sc hfc _, ⟨t, false, cs.length, none, knew, (List.getElem?_eq_some_iff.1 hc1).1⟩, ?_⟩
      have := hc off c hc1
      rw [Cv.den_agree (s := look σ) hA (Cv.free_sc hfc _)]
      unfold Env.ad
      rw [pln]
      exact this
    · rw [cold id off hid] at hv
      obtain ⟨q1, ⟨t', ro, n, cp, q2, q3⟩, q4⟩ := h.cl id off v hv
      refine ⟨q1.sub hS, ⟨t', ro, n, cp, by rw [kold id hid]; exact q2, q3⟩, ?_⟩
      rw [ad id off hid, Cv.den_agree hA q1]
      exact q4
  · intro id t' n cp hb off ho
    by_cases hid : id = σ.nx
    · subst hid
      rw [knew] at hb
      obtain ⟨rfl, rfl, rfl⟩ : t = t' ∧ cs.length = n ∧ none = cp := by simpa using hb
      unfold Env.ad
      rw [pln]
      refine ⟨hfz off ho, ?_⟩
      rw [hc off cs[off] (List.getElem?_eq_getElem ho)]
      rfl
    · rw [kold id hid] at hb
      rw [ad id off hid]
      exact h.ar id t' n cp hb off ho
  · intro id t' ro n f cp hb off ho
    by_cases hid : id = σ.nx
    · subst hid; rw [knew] at hb; cases hb
    · rw [kold id hid] at hb
      rw [ad id off hid]
      exact h.oq id t' ro n f cp hb off ho
  · intro id b c es hb hcp
    by_cases hid : id = σ.nx
    · subst hid
      rw [knew] at hb
      obtain rfl : BI.ar t false cs.length none = b := by simpa using hb
      cases hcp
    · rw [kold id hid] at hb
      obtain ⟨q1, q2, cs', q3, q4, q5⟩ := h.cp id b c es hb hcp
      refine ⟨hS.2 c q1, by rw [pl id hid]; exact q2, cs', by rw [pl id hid]; exact q3, by rw [q4, hA.2 c q1], q5⟩
  · intro id id' b b' hb hb' hr hl hne
    by_cases hid : id = σ.nx
    · subst hid
      rw [knew] at hb
      rw [pln]
      have hid' : id' ≠ σ.nx := Ne.symm hne
      rw [kold id' hid'] at hb'
      rw [pl id' hid']
      exact (hnew id' b' hb' hl).symm
    · rw [kold id hid] at hb
      rw [pl id hid]
      by_cases hid' : id' = σ.nx
      · subst hid'
        rw [pln]
        exact hnew id b hb (by cases b <;> first | rfl | cases hr)
      · rw [kold id' hid'] at hb'
        rw [pl id' hid']
        exact h.inj id id' b b' hb hb' hr hl hne
  · intro id b hb hl
    by_cases hid : id = σ.nx
    · subst hid; rw [pln]; exact hp
    · rw [kold id hid] at hb
      rw [pl id hid]
      exact h.lt id b hb hl
  · intro id b hb hr
    by_cases hid : id = σ.nx
    · subst hid
      rw [knew] at hb
      rw [pln]
      exact hM
    · rw [kold id hid] at hb
      rw [pl id hid]
      exact h.mu id b hb hr

/-! A row that is handed back. -/
def intsL : List Cv → Option (List Int)
  | [] => some []
  | .i .i64 n _ :: cs => match intsL cs with
    | some xs => some (n :: xs)
    | none => none
  | _ => none
theorem intsL_at : ∀ {cs : List Cv} {xs : List Int}, intsL cs = some xs → cs.length = xs.length ∧ ∀ j, j < xs.length → ∃ l, cs[j]? = some (.i .i64 (xs.getD j 0) l)
  | [], xs, h => by obtain rfl := Option.some.inj h; exact ⟨rfl, fun j hj => by cases hj⟩
  | .i .i64 n l :: cs, xs, h => by
    simp only [intsL] at h
    split at h
    · rename_i ys hy
      obtain rfl := Option.some.inj h
      obtain ⟨k1, k2⟩ := intsL_at hy
      refine ⟨by simp [k1], fun j hj => ?_⟩
      cases j with
      | zero => exact ⟨l, rfl⟩
      | succ j =>
        obtain ⟨l', hl'⟩ := k2 j (by simpa using hj)
        exact ⟨l', by simpa using hl'⟩
    · cases h
def rowOf (y : FLeaf) : Option (List Int) := match y.1 with
  | .one (.slc id (.lit 0) (.lit k) _) => match alook y.2.bk id with
    | some (.ar _ false cs _) => match Nat.ble k cs.length && Nat.ble 1 k with
      | true => intsL (cs.take k)
      | false => none
    | _ => none
  | .one (.val (.slice none 0 0)) => some []
  | _ => none
def rdR : Tree FLeaf → Option (List Int)
  | .leaf y => rowOf y
  | .must b t => bif b then rdR t else none
  | .br b t f => bif b then rdR t else rdR f
  | .fail => none
theorem rdR_at : ∀ {T : Tree FLeaf} {xs : List Int}, rdR T = some xs → ∃ y, T.At y ∧ rowOf y = some xs
  | .leaf y, xs, h => ⟨y, rfl, h⟩
  | .must b t, xs, h => by
    cases b with
    | true => obtain ⟨y, h1, h2⟩ := rdR_at (T := t) h; exact ⟨y, ⟨rfl, h1⟩, h2⟩
    | false => cases h
  | .br b t f, xs, h => by
    cases b with
    | true => obtain ⟨y, h1, h2⟩ := rdR_at (T := t) h; exact ⟨y, Or.inl ⟨rfl, h1⟩, h2⟩
    | false => obtain ⟨y, h1, h2⟩ := rdR_at (T := f) h; exact ⟨y, Or.inr ⟨rfl, h1⟩, h2⟩
/-- A new row of numbers, in memory that was not there before. -/
def NewRow (w w' : World) (v : Value) (xs : List Int) : Prop := (xs = [] ∧ v = .slice none 0 0) ∨ (xs ≠ [] ∧ ∃ b off c, v = .slice (some ⟨b, off, none⟩) xs.length c ∧ w.heap.size ≤ b ∧ b < w'.heap.size ∧ ∀ k, k < xs.length → w'.cell? ⟨b, off + k, none⟩ = some (.int .i64 (xs.getD k 0)) ∧ w'.frozen? ⟨b, off + k, none⟩ = false)
theorem row_any {f : FuncId} {args : List Sv} {y : FLeaf} {xs : List Int} (h : FunOk P f args st0 y.1 y.2) (hr : rowOf y = some xs) (hargs : ∀ x ∈ args, x.freeB = true) (e : Env) (w : World) :
    Calls P f (args.map (·.den e)).toArray w fun en w' => ∃ v, en = .returned v ∧ NewRow w w' v xs ∧ Below w.heap.size w w' := by
  have he : args.map (·.den e) = args.map (·.den env0) := List.map_congr_left fun x hx => Sv.free_den (hargs x hx) env0 e
  rw [he]
  refine (h.run (ctx0 w) env0 w (hp0 w) fun x hx => Sv.free_sc (hargs x hx) _).mono fun en w' => ?_
  rintro ⟨e', -, hp, rfl, -⟩
  refine ⟨_, rfl, ?_, hp.fr.os, hp.fr.tape, hp.fr.output, hp.fr.size, fun k hk => hp.fr.block k hk (show ¬ w.heap.size ≤ k by omega)⟩
  unfold rowOf at hr
  split at hr
  · rename_i id k cap hv
    split at hr
    · rename_i t cs cp hb
      split at hr
      · rename_i hle
        simp only [Bool.and_eq_true, Nat.ble_eq] at hle
        obtain ⟨hle, hle1⟩ := hle
        obtain ⟨k1, k2⟩ := intsL_at hr
        have hk : xs.length = k := by rw [← k1, List.length_take]; omega
        have hkk : look y.2 (.k id) = some (.bk (.ar t false cs.length cp)) := by simp only [look, hb]; rfl
        rw [hv]
        refine Or.inr ⟨fun e => by rw [e] at hk; simp at hk; omega, (e'.pl id).1, (e'.pl id).2, cap.den e', ?_, hp.mu id _ hkk rfl, hp.lt id _ hkk rfl, fun j hj => ?_⟩
        · rw [hk]; rfl
        · obtain ⟨l, hl⟩ := k2 j hj
          have hj2 : j < k := by omega
          rw [List.getElem?_take_of_lt hj2] at hl
          have := (hp.cl id j (.i .i64 (xs.getD j 0) l) (by simp only [look, hb, Option.bind_some, Blk.cell, hl]; rfl)).2.2
          exact ⟨this, (hp.ar id t cs.length cp hkk j (by omega)).1⟩
      · cases hr
    · cases hr
  · rename_i hv
    obtain rfl : [] = xs := by simpa using hr
    rw [hv]
    exact Or.inl ⟨rfl, rfl⟩
  · cases hr
/-- The row, in a state of the caller. -/
def rowSv (σ : St) : List Int → Sv
  | [] => .one (.val (.slice none 0 0))
  | x :: xs => .one (.slc σ.nx (.lit 0) (.lit (xs.length + 1)) (.nam σ.nn))
def rowSt (σ : St) (t : TypeId) : List Int → St
  | [] => σ
  | x :: xs => addRo σ t ((x :: xs).map fun n => .i .i64 n false)
theorem row_fun {f : FuncId} {args : List Sv} {σ : St} {xs : List Int} {t : TypeId} (h1 : alook σ.bk σ.nx = none) (h2 : memb σ.nl σ.nn = false) (h : ∀ (e : Env) (w : World), Calls P f (args.map (·.den e)).toArray w fun en w' => ∃ v, en = .returned v ∧ NewRow w w' v xs ∧ Below w.heap.size w w') :
    FunOk P f args σ (rowSv σ xs) (rowSt σ t xs) := by
  refine ⟨fun C e w hp _ => ?_, fun id off hk _ => ?_⟩
  case refine_2 =>
    cases xs with
    | nil => rfl
    | cons x xs =>
      have hne : id ≠ σ.nx := fun e => by rw [kn_look, e, h1] at hk; cases hk
      simp only [rowSt, Sx.addRo, look, alook]
      rw [beq_ff.2 (Ne.symm hne)]
  refine (h e w).mono fun en w' => ?_
  rintro ⟨v, rfl, hN, hb⟩
  cases xs with
  | nil =>
    rcases hN with ⟨_, rfl⟩ | ⟨h0, _⟩
    · exact ⟨e, Agree.refl _ _, hp.keep hb, rfl, trivial⟩
    · exact absurd rfl h0
  | cons x xs =>
    rcases hN with ⟨h0, _⟩ | ⟨-, b, off, c, rfl, hlo, hhi, hcell⟩
    · cases h0
    · refine ⟨addEnv σ e (b, off) c, addRo_agree h1 h2, (hp.keep hb).addRo h1 h2 (by simp [List.all_eq_true, Cv.freeB]) hhi (fun id bi hbi hl => ?_) (hp.new b (Nat.le_trans hp.fr.size hlo)) (fun j hj => (hcell j (by simpa using hj)).2) (fun j cv hj => ?_), ?_, ?_⟩
      · have := hp.lt id bi hbi hl
        show (e.pl id).1 ≠ b
        omega
      · rw [List.getElem?_map] at hj
        obtain ⟨n, hn, rfl⟩ := Option.map_eq_some_iff.1 hj
        have hlt := (List.getElem?_eq_some_iff.1 hn).1
        have := (hcell j hlt).1
        rw [List.getD_eq_getElem?_getD, hn] at this
        exact this
      · show Ending.returned _ = Ending.returned (Value.slice (some ((addEnv σ e (b, off) c).ad σ.nx 0)) (xs.length + 1) ((addEnv σ e (b, off) c).nm σ.nn))
        have e1 : (addEnv σ e (b, off) c).pl σ.nx = (b, off) := if_pos rfl
        have e2 : (addEnv σ e (b, off) c).nm σ.nn = c := if_pos rfl
        unfold Env.ad
        rw [e1, e2]
        rfl
      · refine ⟨?_, trivial, trivial, ?_⟩
        · rw [kn_look]; simp [rowSt, Sx.addRo, alook]
        · show knn _ _
          rw [knn_look]; simp [rowSt, Sx.addRo, memb]
end
end Sx
end Go.Proofs.Ytgiinciclnekjaa
