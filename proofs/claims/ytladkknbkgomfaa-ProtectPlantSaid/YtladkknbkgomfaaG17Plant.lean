/-
  A function that hands back a new row of numbers.
-/
import Derived.Test.YtladkknbkgomfaaG14Plant
set_option linter.unusedSimpArgs false
set_option linter.unusedVariables false
namespace Go.Proofs.Ytladkknbkgomfaa
namespace Sx
open Go.RowKit

section
variable {P : Program} {tb : Tb}
/-- A state that knows one more block, and one more number. -/
def addRo (σ : St) (t : TypeId) (cs : List Cv) : St := { σ with bk := (σ.nx, .ar t false cs none) :: σ.bk, nx := σ.nx + 1, nl := σ.nn :: σ.nl, nn := σ.nn + 1 }
def addEnv (σ : St) (e : Env) (p : Nat × Nat) (m : Nat) : Env := ⟨fun id => if id = σ.nx then p else e.pl id, fun c => if c = σ.nn then m else e.nm c⟩
theorem kn_look {σ : St} {id : Nat} : kn (look σ) id ↔ (alook σ.bk id).isSome = true := by
  unfold kn
  simp only [look, Option.isSome_map]
theorem knn_look {σ : St} {c : Nat} : knn (look σ) c ↔ memb σ.nl c = true := by
  unfold knn
  simp only [look]
  split
  · rename_i h; simp [h]
  · rename_i h; simp [h]
theorem addRo_agree {σ : St} {e : Env} {p : Nat × Nat} {m : Nat} (h1 : alook σ.bk σ.nx = none) (h2 : memb σ.nl σ.nn = false) : Agree (look σ) e (addEnv σ e p m) := by
  refine ⟨fun id hid => ?_, fun c hc => ?_⟩
  · have : id ≠ σ.nx := fun e => by rw [kn_look, e, h1] at hid; cases hid
    exact if_neg this
  · have : c ≠ σ.nn := fun e => by rw [knn_look, e, h2] at hc; cases hc
    exact if_neg this
theorem addRo_sub (σ : St) (t : TypeId) (cs : List Cv) : Sub (look σ) (look (addRo σ t cs)) := by
  refine ⟨fun id hid => ?_, fun c hc => ?_⟩
  · rw [kn_look] at hid ⊢
    simp only [addRo, alook]
    split
    · rfl
    · exact hid
  · rw [knn_look] at hc ⊢
    simp only [addRo, memb]
    split
    · rfl
    · exact hc
theorem Hp.addRo {C : Ctx} {e : Env} {σ : St} {w : World} (h : Hp C e (look σ) w) (h1 : alook σ.bk σ.nx = none) (h2 : memb σ.nl σ.nn = false) {t : TypeId} {cs : List Cv} (hf : cs.all Cv.freeB = true) {p : Nat × Nat} {m : Nat} (hp : p.1 < w.heap.size)
    (hnew : ∀ id b, look σ (.k id) = some (.bk b) → b.live = true → (e.pl id).1 ≠ p.1) (hM : C.M p.1) (hfz : ∀ j, j < cs.length → w.frozen? ⟨p.1, p.2 + j, none⟩ = false) (hc : ∀ j c, cs[j]? = some c → w.cell? ⟨p.1, p.2 + j, none⟩ = some (c.den e)) : Hp C (addEnv σ e p m) (look (Sx.addRo σ t cs)) w := by
  have hA := addRo_agree (e := e) (p := p) (m := m) h1 h2
  have hS := addRo_sub σ t cs
  have kold : ∀ id, id ≠ σ.nx → look (Sx.addRo σ t cs) (.k id) = look σ (.k id) := fun id hid => by
    simp only [look, Sx.addRo, alook]
    rw [beq_ff.2 (Ne.symm hid)]
  have cold : ∀ id off, id ≠ σ.nx → look (Sx.addRo σ t cs) (.c id off) = look σ (.c id off) := fun id off hid => by
    simp only [look, Sx.addRo, alook]
    rw [beq_ff.2 (Ne.symm hid)]
  have knew : look (Sx.addRo σ t cs) (.k σ.nx) = some (.bk (.ar t false cs.length none)) := by
    simp only [look, Sx.addRo, alook, Nat.beq_refl]; rfl
  have cnew : ∀ off, look (Sx.addRo σ t cs) (.c σ.nx off) = (cs[off]?).map .cv := fun off => by
    simp only [look, Sx.addRo, alook, Nat.beq_refl]; rfl
  have ad : ∀ id off, id ≠ σ.nx → (addEnv σ e p m).ad id off = e.ad id off := fun id off hid => by
    unfold Env.ad; show (⟨(if id = σ.nx then p else e.pl id).1, _, none⟩ : Addr) = _
    simp only [addEnv, if_neg hid]
  have pl : ∀ id, id ≠ σ.nx → (addEnv σ e p m).pl id = e.pl id := fun id hid => if_neg hid
  have pln : (addEnv σ e p m).pl σ.nx = p := if_pos rfl
  refine ⟨h.new, ?_, ?_, ?_, ?_, ?_, ?_, ?_, h.pin.mono hA hS, h.fr⟩
  · intro id off v hv
    by_cases hid : id = σ.nx
    · subst hid
      rw [cnew] at hv
      obtain ⟨c, hc1, hc2⟩ := Option.map_eq_some_iff.1 hv
      obtain rfl : c = v := by simpa using hc2
      have hfc := List.all_eq_true.1 hf c (List.mem_of_getElem? hc1)
      refine ⟨Cv.free_sc hfc _, ⟨t, false, cs.length, none, knew, (List.getElem?_eq_some_iff.1 hc1).1⟩, ?_⟩
      have := hc off c hc1
      rw [Cv.den_agree (s := look σ) hA (Cv.free_sc hfc _)]
      unfold Env.ad
      rw [pln]
      exact this
    · rw [cold id off hid] at hv
      obtain ⟨q1, ⟨t', ro, n, cp, q2, q3⟩, q4⟩ := h.cl id off v hv
      refine ⟨q1.sub hS, ⟨t', ro, n, cp, by rw [kold id hid]; exact q2, q3⟩, ?_⟩
      rw [ad id off hid, Cv.den_agree hA q1]
      exact q4
  · intro id t' n cp hb off ho
    by_cases hid : id = σ.nx
    · subst hid
      rw [knew] at hb
      obtain ⟨rfl, rfl, rfl⟩ : t = t' ∧ cs.length = n ∧ none = cp := by simpa using hb
      unfold Env.ad
      rw [pln]
      refine ⟨hfz off ho, ?_⟩
      rw [hc off cs[off] (List.getElem?_eq_getElem ho)]
      rfl
    · rw [kold id hid] at hb
      rw [ad id off hid]
      exact h.ar id t' n cp hb off ho
  · intro id t' ro n f cp hb off ho
    by_cases hid : id = σ.nx
    · subst hid; rw [knew] at hb; cases hb
    · rw [kold id hid] at hb
      rw [ad id off hid]
      exact h.oq id t' ro n f cp hb off ho
  · intro id b c es hb hcp
    by_cases hid : id = σ.nx
    · subst hid
      rw [knew] at hb
      obtain rfl : BI.ar t false cs.length none = b := by simpa using hb
      cases hcp
    · rw [kold id hid] at hb
      obtain ⟨q1, q2, cs', q3, q4, q5⟩ := h.cp id b c es hb hcp
      refine ⟨hS.2 c q1, by rw [pl id hid]; exact q2, cs', by rw [pl id hid]; exact q3, by rw [q4, hA.2 c q1], q5⟩
  · intro id id' b b' hb hb' hr hl hne
    by_cases hid : id = σ.nx
    · subst hid
      rw [knew] at hb
      rw [pln]
      have hid' : id' ≠ σ.nx := Ne.symm hne
      rw [kold id' hid'] at hb'
      rw [pl id' hid']
      exact (hnew id' b' hb' hl).symm
    · rw [kold id hid] at hb
      rw [pl id hid]
      by_cases hid' : id' = σ.nx
      · subst hid'
        rw [pln]
        exact hnew id b hb (by cases b <;> first | rfl | cases hr)
      · rw [kold id' hid'] at hb'
        rw [pl id' hid']
        exact h.inj id id' b b' hb hb' hr hl hne
  · intro id b hb hl
    by_cases hid : id = σ.nx
    · subst hid; rw [pln]; exact hp
    · rw [kold id hid] at hb
      rw [pl id hid]
      exact h.lt id b hb hl
  · intro id b hb hr
    by_cases hid : id = σ.nx
    · subst hid
      rw [knew] at hb
      rw [pln]
      exact hM
    · rw [kold id hid] at hb
      rw [pl id hid]
      exact h.mu id b hb hr

/-! A row that is handed back. -/
def intsL : List Cv → Option (List Int)
  | [] => some []
  | .i .i64 n _ :: cs => match intsL cs with
    | some xs => some (n :: xs)
    | none => none
  | _ => none
theorem intsL_at : ∀ {cs : List Cv} {xs : List Int}, intsL cs = some xs → cs.length = xs.length ∧ ∀ j, j < xs.length → ∃ l, cs[j]? = some (.i .i64 (xs.getD j 0) l)
  | [], xs, h => by obtain rfl := Option.some.inj h; exact ⟨rfl, fun j hj => by cases hj⟩
  | .i .i64 n l :: cs, xs, h => by
    simp only [intsL] at h
    split at h
    · rename_i ys hy
      obtain rfl := Option.some.inj h
      obtain ⟨k1, k2⟩ := intsL_at hy
      refine ⟨by simp [k1], fun j hj => ?_⟩
      cases j with
      | zero => exact ⟨l, rfl⟩
      | succ j =>
        obtain ⟨l', hl'⟩ := k2 j (by simpa using hj)
        exact ⟨l', by simpa using hl'⟩
    · cases h
def rowOf (y : FLeaf) : Option (List Int) := match y.1 with
  | .one (.slc id (.lit 0) (.lit k) _) => match alook y.2.bk id with
    | some (.ar _ false cs _) => match Nat.ble k cs.length && Nat.ble 1 k with
      | true => intsL (cs.take k)
      | false => none
    | _ => none
  | .one (.val (.slice none 0 0)) => some []
  | _ => none
def rdR : Tree FLeaf → Option (List Int)
  | .leaf y => rowOf y
  | .must b t => bif b then rdR t else none
  | .br b t f => bif b then rdR t else rdR f
  | .fail => none
theorem rdR_at : ∀ {T : Tree FLeaf} {xs : List Int}, rdR T = some xs → ∃ y, T.At y ∧ rowOf y = some xs
  | .leaf y, xs, h => ⟨y, rfl, h⟩
  | .must b t, xs, h => by
    cases b with
    | true => obtain ⟨y, h1, h2⟩ := rdR_at (T := t) h; exact ⟨y, ⟨rfl, h1⟩, h2⟩
    | false => cases h
  | .br b t f, xs, h => by
    cases b with
    | true => obtain ⟨y, h1, h2⟩ := rdR_at (T := t) h; exact ⟨y, Or.inl ⟨rfl, h1⟩, h2⟩
    | false => obtain ⟨y, h1, h2⟩ := rdR_at (T := f) h; exact ⟨y, Or.inr ⟨rfl, h1⟩, h2⟩
/-- A new row of numbers, in memory that was not there before. -/
def NewRow (w w' : World) (v : Value) (xs : List Int) : Prop := (xs = [] ∧ v = .slice none 0 0) ∨ (xs ≠ [] ∧ ∃ b off c, v = .slice (some ⟨b, off, none⟩) xs.length c ∧ w.heap.size ≤ b ∧ b < w'.heap.size ∧ ∀ k, k < xs.length → w'.cell? ⟨b, off + k, none⟩ = some (.int .i64 (xs.getD k 0)) ∧ w'.frozen? ⟨b, off + k, none⟩ = false)
theorem row_any {f : FuncId} {args : List Sv} {y : FLeaf} {xs : List Int} (h : FunOk P f args st0 y.1 y.2) (hr : rowOf y = some xs) (hargs : ∀ x ∈ args, x.freeB = true) (e : Env) (w : World) (hG : Glob0 w := by exact glob0 w) :
    Calls P f (args.map (·.den e)).toArray w fun en w' => ∃ v, en = .returned v ∧ NewRow w w' v xs ∧ Below w.heap.size w w' := by
  have he : args.map (·.den e) = args.map (·.den env0) := List.map_congr_left fun x hx => Sv.free_den (hargs x hx) env0 e
  rw [he]
  refine (h.run (ctx0 w) env0 w (hp0 w hG) fun x hx => Sv.free_sc (hargs x hx) _).mono fun en w' => ?_
  rintro ⟨e', -, hp, rfl, -⟩
  refine ⟨_, rfl, ?_, hp.fr.os, hp.fr.tape, hp.fr.output, hp.fr.size, fun k hk => hp.fr.block k hk (show ¬ w.heap.size ≤ k by omega)⟩
  unfold rowOf at hr
  split at hr
  · rename_i id k cap hv
    split at hr
    · rename_i t cs cp hb
      split at hr
      · rename_i hle
        simp only [Bool.and_eq_true, Nat.ble_eq] at hle
        obtain ⟨hle, hle1⟩ := hle
        obtain ⟨k1, k2⟩ := intsL_at hr
        have hk : xs.length = k := by rw [← k1, List.length_take]; omega
        have hkk : look y.2 (.k id) = some (.bk (.ar t false cs.length cp)) := by simp only [look, hb]; rfl
        rw [hv]
        refine Or.inr ⟨fun e => by rw [e] at hk; simp at hk; omega, (e'.pl id).1, (e'.pl id).2, cap.den e', ?_, hp.mu id _ hkk rfl, hp.lt id _ hkk rfl, fun j hj => ?_⟩
        · rw [hk]; rfl
        · obtain ⟨l, hl⟩ := k2 j hj
          have hj2 : j < k := by omega
          rw [List.getElem?_take_of_lt hj2] at hl
          have := (hp.cl id j (.i .i64 (xs.getD j 0) l) (by simp only [look, hb, Option.bind_some, Blk.cell, hl]; rfl)).2.2
          exact ⟨this, (hp.ar id t cs.length cp hkk j (by omega)).1⟩
      · cases hr
    · cases hr
  · rename_i hv
    obtain rfl : [] = xs := by simpa using hr
    rw [hv]
    exact Or.inl ⟨rfl, rfl⟩
  · cases hr
/-- The row, in a state of the caller. -/
def rowSv (σ : St) : List Int → Sv
  | [] => .one (.val (.slice none 0 0))
  | x :: xs => .one (.slc σ.nx (.lit 0) (.lit (xs.length + 1)) (.nam σ.nn))
def rowSt (σ : St) (t : TypeId) : List Int → St
  | [] => σ
  | x :: xs => addRo σ t ((x :: xs).map fun n => .i .i64 n false)
theorem row_fun {f : FuncId} {args : List Sv} {σ : St} {xs : List Int} {t : TypeId} (h1 : alook σ.bk σ.nx = none) (h2 : memb σ.nl σ.nn = false) (h : ∀ (e : Env) (w : World), Calls P f (args.map (·.den e)).toArray w fun en w' => ∃ v, en = .returned v ∧ NewRow w w' v xs ∧ Below w.heap.size w w') :
    FunOk P f args σ (rowSv σ xs) (rowSt σ t xs) := by
  refine ⟨fun C e w hp _ => ?_, fun id off hk _ => ?_⟩
  case refine_2 =>
    cases xs with
    | nil => rfl
    | cons x xs =>
      have hne : id ≠ σ.nx := fun e => by rw [kn_look, e, h1] at hk; cases hk
      simp only [rowSt, Sx.addRo, look, alook]
      rw [beq_ff.2 (Ne.symm hne)]
  refine (h e w).mono fun en w' => ?_
  rintro ⟨v, rfl, hN, hb⟩
  cases xs with
  | nil =>
    rcases hN with ⟨_, rfl⟩ | ⟨h0, _⟩
    · exact ⟨e, Agree.refl _ _, hp.keep hb, rfl, trivial⟩
    · exact absurd rfl h0
  | cons x xs =>
    rcases hN with ⟨h0, _⟩ | ⟨-, b, off, c, rfl, hlo, hhi, hcell⟩
    · cases h0
    · refine ⟨addEnv σ e (b, off) c, addRo_agree h1 h2, (hp.keep hb).addRo h1 h2 (by simp [List.all_eq_true, Cv.freeB]) hhi (fun id bi hbi hl => ?_) (hp.new b (Nat.le_trans hp.fr.size hlo)) (fun j hj => (hcell j (by simpa using hj)).2) (fun j cv hj => ?_), ?_, ?_⟩
      · have := hp.lt id bi hbi hl
        show (e.pl id).1 ≠ b
        omega
      · rw [List.getElem?_map] at hj
        obtain ⟨n, hn, rfl⟩ := Option.map_eq_some_iff.1 hj
        have hlt := (List.getElem?_eq_some_iff.1 hn).1
        have := (hcell j hlt).1
        rw [List.getD_eq_getElem?_getD, hn] at this
        exact this
      · show Ending.returned _ = Ending.returned (Value.slice (some ((addEnv σ e (b, off) c).ad σ.nx 0)) (xs.length + 1) ((addEnv σ e (b, off) c).nm σ.nn))
        have e1 : (addEnv σ e (b, off) c).pl σ.nx = (b, off) := if_pos rfl
        have e2 : (addEnv σ e (b, off) c).nm σ.nn = c := if_pos rfl
        unfold Env.ad
        rw [e1, e2]
        rfl
      · refine ⟨?_, trivial, trivial, ?_⟩
        · rw [kn_look]; simp [rowSt, Sx.addRo, alook]
        · show knn _ _
          rw [knn_look]; simp [rowSt, Sx.addRo, memb]
end
end Sx
end Go.Proofs.Ytladkknbkgomfaa

/-
  Loops: one round from a state in names, and what it leaves.
-/
set_option linter.unusedSimpArgs false
set_option linter.unusedVariables false
namespace Go.Proofs.Ytladkknbkgomfaa
namespace Sx
open Go.RowKit

section
variable {P : Program} {tb : Tb}
/-- A place that changes from round to round. -/
inductive Pl where
  | t (n : Nat)
  | c (id off : Nat)
def Pl.w : Pl → Cv → Wr
  | .t n, v => .tm n (.one v)
  | .c id off, v => .cell id off v
def Pl.loc : Pl → Loc
  | .t n => .t n
  | .c id off => .c id off
def Pl.lv : Pl → Cv → LV
  | .t _, v => .sv (.one v)
  | .c _ _, v => .cv v
def Pl.rd (σ : St) : Pl → Option Cv
  | .t n => match alook σ.tm n with
    | some (.one z) => some z
    | _ => none
  | .c id off => (alook σ.bk id).bind fun b => b.cell off
def Lf.fits : Lf → Cv → Bool
  | .b, .b _ _ => true
  | .i k, .i k' _ _ => decide (k = k')
  | _, _ => false
def cvB : Cv → Bool
  | .b v _ => v
  | _ => false
def cvI : Cv → Int
  | .i _ n _ => n
  | _ => 0
abbrev Dom := List (Pl × Lf)
def putW (bs : Nat → Bool) (ns : Nat → Int) : Nat → Dom → List Wr
  | _, [] => []
  | j, (p, l) :: ps => p.w (l.cv bs ns j) :: putW bs ns (j + 1) ps
def domHas (d : Dom) (l : Loc) : Bool := d.any fun p => match p.1, l with
  | .t n, .t m => Nat.beq n m
  | .c id off, .c i o => Nat.beq id i && Nat.beq off o
  | _, _ => false
/-- A write that keeps what else is known. -/
def okWr (d : Dom) (σ0 : St) : Wr → Bool
  | .tm n _ => domHas d (.t n) || (alook σ0.tm n).isNone
  | .ft n => domHas d (.t n) || (alook σ0.tm n).isNone
  | .cell id off _ => domHas d (.c id off) || (alook σ0.bk id).isNone
  | .new id _ => (alook σ0.bk id).isNone
  | .nm c => !memb σ0.nl c
def rdB' (d : Dom) (σ : St) (j : Nat) : Bool := match d[j]? with
  | some (p, _) => match p.rd σ with
    | some c => cvB c
    | none => false
  | none => false
def rdI' (d : Dom) (σ : St) (j : Nat) : Int := match d[j]? with
  | some (p, _) => match p.rd σ with
    | some c => cvI c
    | none => 0
  | none => 0
def okStep (d : Dom) (σ0 I y : St) : Bool := (d.all fun p => match p.1.rd y with
    | some c => p.2.fits c
    | none => false) && (newL I y).all (okWr d σ0)
noncomputable instance : DecidableEq Loc := fun _ _ => Classical.propDecidable _
theorem Pl.w_fn (p : Pl) (v : Cv) (l : Loc) : (p.w v).fn l = if p.loc = l then some (some (p.lv v)) else none := by
  cases p with
  | t n =>
    cases l with
    | t m =>
      by_cases e : m = n
      · subst e; simp [Pl.w, Wr.fn, Pl.loc, Pl.lv]
      · simp [Pl.w, Wr.fn, Pl.loc, e, Ne.symm e]
    | _ => simp [Pl.w, Wr.fn, Pl.loc]
  | c id off =>
    cases l with
    | c i o =>
      by_cases e : i = id ∧ o = off
      · obtain ⟨rfl, rfl⟩ := e; simp [Pl.w, Wr.fn, Pl.loc, Pl.lv]
      · have e' : ¬ (id = i ∧ off = o) := fun h => e ⟨h.1.symm, h.2.symm⟩
        simp [Pl.w, Wr.fn, Pl.loc, e, e']
    | _ => simp [Pl.w, Wr.fn, Pl.loc]
theorem domHas_iff {d : Dom} {l : Loc} (h : ∃ p : Pl × Lf, p ∈ d ∧ p.1.loc = l) : domHas d l = true := by
  obtain ⟨⟨p, lf⟩, hp, rfl⟩ := h
  refine List.any_eq_true.2 ⟨_, hp, ?_⟩
  cases p <;> simp [Pl.loc]
theorem domHas_of {d : Dom} {l : Loc} (h : domHas d l = true) : ∃ p : Pl × Lf, p ∈ d ∧ p.1.loc = l := by
  obtain ⟨⟨p, lf⟩, hp, h2⟩ := List.any_eq_true.1 h
  refine ⟨_, hp, ?_⟩
  cases p <;> cases l <;> simp only [Bool.and_eq_true] at h2 <;> first
    | cases h2; done
    | (rw [Pl.loc, beq_iff'.1 h2])
    | (rw [Pl.loc, beq_iff'.1 h2.1, beq_iff'.1 h2.2])
theorem fns_put (bs : Nat → Bool) (ns : Nat → Int) (l : Loc) : ∀ (d : Dom) (j : Nat), (fns (putW bs ns j d) l = none ∧ ∀ p : Pl × Lf, p ∈ d → p.1.loc ≠ l) ∨ ∃ (i : Nat) (p : Pl) (lf : Lf), d[i]? = some (p, lf) ∧ p.loc = l ∧ fns (putW bs ns j d) l = some (some (p.lv (lf.cv bs ns (j + i))))
  | [], j => Or.inl ⟨rfl, fun p hp => by cases hp⟩
  | (p, lf) :: d, j => by
    rcases fns_put bs ns l d (j + 1) with ⟨h1, h2⟩ | ⟨i, q, lf', h1, h2, h3⟩
    · by_cases e : p.loc = l
      · refine Or.inr ⟨0, p, lf, rfl, e, ?_⟩
        simp only [putW, fns, h1, Pl.w_fn, if_pos e, Nat.add_zero]
      · refine Or.inl ⟨?_, fun q hq => ?_⟩
        · simp only [putW, fns, h1, Pl.w_fn, if_neg e]
        · cases hq with
          | head => exact e
          | tail _ hq => exact h2 q hq
    · refine Or.inr ⟨i + 1, q, lf', by simpa using h1, h2, ?_⟩
      simp only [putW, fns, h3]
      rw [show j + 1 + i = j + (i + 1) by omega]
theorem put_other {bs : Nat → Bool} {ns : Nat → Int} {d : Dom} {s : Sto} {l : Loc} (h : ∀ p : Pl × Lf, p ∈ d → p.1.loc ≠ l) : upds s (putW bs ns 0 d) l = s l := by
  rw [upds_fns]
  rcases fns_put bs ns l d 0 with ⟨h1, _⟩ | ⟨i, p, lf, h1, h2, _⟩
  · simp only [h1, Option.getD_none]
  · exact absurd h2 (h _ (List.mem_of_getElem? h1))
theorem put_at {bs : Nat → Bool} {ns : Nat → Int} {d : Dom} {s : Sto} {l : Loc} (h : ∃ p : Pl × Lf, p ∈ d ∧ p.1.loc = l) : ∃ (i : Nat) (p : Pl) (lf : Lf), d[i]? = some (p, lf) ∧ p.loc = l ∧ upds s (putW bs ns 0 d) l = some (p.lv (lf.cv bs ns i)) := by
  rw [upds_fns]
  rcases fns_put bs ns l d 0 with ⟨_, h2⟩ | ⟨i, p, lf, h1, h2, h3⟩
  · obtain ⟨p, hp, e⟩ := h; exact absurd e (h2 p hp)
  · exact ⟨i, p, lf, h1, h2, by dsimp only; rw [h3, Nat.zero_add]; rfl⟩
theorem Pl.ne_k (p : Pl) (id : Nat) : p.loc ≠ .k id := by cases p <;> simp [Pl.loc]
theorem Pl.ne_n (p : Pl) (c : Nat) : p.loc ≠ .n c := by cases p <;> simp [Pl.loc]
theorem Pl.rd_look {σ : St} {p : Pl} {c : Cv} (h : p.rd σ = some c) : look σ p.loc = some (p.lv c) := by
  cases p with
  | t n =>
    simp only [Pl.rd] at h
    split at h
    · rename_i c' hc
      obtain rfl := Option.some.inj h
      simp only [Pl.loc, look, hc]; rfl
    · cases h
  | c id off =>
    simp only [Pl.rd] at h
    obtain ⟨b, hb, hc⟩ := Option.bind_eq_some_iff.1 h
    simp only [Pl.loc, look, hb, Option.bind_some, hc]; rfl
theorem fits_den {l : Lf} {c : Cv} (h : l.fits c = true) {bs : Nat → Bool} {ns : Nat → Int} {j : Nat} (hb : bs j = cvB c) (hn : ns j = cvI c) (e : Env) : (l.cv bs ns j).den e = c.den e := by
  cases l with
  | b => cases c with
    | b v fl => show Value.bool (bs j) = Value.bool v; rw [hb]; rfl
    | _ => cases h
  | i k => cases c with
    | i k' n fl =>
      obtain rfl : k = k' := by simpa [Lf.fits] using h
      show Value.int k (ns j) = Value.int k n
      rw [hn]; rfl
    | _ => cases h
theorem Lf.cv_sc (l : Lf) (bs : Nat → Bool) (ns : Nat → Int) (j : Nat) (s : Sto) : (l.cv bs ns j).sc s := by cases l <;> trivial
/-- What a round leaves is again such a state, with other names. -/
theorem round_rel {C : Ctx} {N : Nat} {e0 e : Env} {a0 a : Act} {w0 w : World} {d : Dom} {σ0 I y : St} {bs : Nat → Bool} {ns : Nat → Int} (hI : look I = upds (look σ0) (putW bs ns 0 d)) (hx : Ext I y) (ok : okStep d σ0 I y = true)
    (hR0 : Rel C N e0 (look I) a0 w0) (hR : Rel C N e (look y) a w) : Rel C N e (upds (look σ0) (putW (rdB' d y) (rdI' d y) 0 d)) a w := by
  obtain ⟨o1, o2⟩ := Bool.and_eq_true_iff.1 ok
  obtain ⟨ws, hw, hl⟩ := newL_ext hx
  have hlook := look_apps hw
  have hws := hR0.ws
  -- what is not written
  have keep : ∀ l v, look σ0 l = some v → (∀ p : Pl × Lf, p ∈ d → p.1.loc ≠ l) → look y l = some v := by
    intro l v hv hd
    have hnd : domHas d l = false := by
      cases hc : domHas d l with
      | false => rfl
      | true => obtain ⟨p, hp, e⟩ := domHas_of hc; exact absurd e (hd p hp)
    rw [hlook, upds_fns]
    have hno : fns ws l = none := by
      cases hf : fns ws l with
      | none => rfl
      | some z =>
        exfalso
        obtain ⟨x, hx1, hx2⟩ := fns_some (l := l) (ws := ws) (by rw [hf]; rfl)
        have hok := List.all_eq_true.1 o2 x (by rw [hl]; exact List.mem_reverse.2 hx1)
        cases x with
        | tm n v' =>
          cases l with
          | t m =>
            obtain rfl : m = n := by simp only [Wr.fn] at hx2; split at hx2; assumption; cases hx2
            simp only [okWr, hnd, Bool.false_or, Option.isNone_iff_eq_none] at hok
            simp only [look, hok] at hv; cases hv
          | _ => cases hx2
        | ft n =>
          cases l with
          | t m =>
            obtain rfl : m = n := by simp only [Wr.fn] at hx2; split at hx2; assumption; cases hx2
            simp only [okWr, hnd, Bool.false_or, Option.isNone_iff_eq_none] at hok
            simp only [look, hok] at hv; cases hv
          | _ => cases hx2
        | cell id off v' =>
          cases l with
          | c i o =>
            obtain ⟨rfl, rfl⟩ : i = id ∧ o = off := by simp only [Wr.fn] at hx2; split at hx2; assumption; cases hx2
            simp only [okWr, hnd, Bool.false_or, Option.isNone_iff_eq_none] at hok
            simp only [look, hok] at hv; cases hv
          | _ => cases hx2
        | new id b =>
          simp only [okWr, Option.isNone_iff_eq_none] at hok
          cases l with
          | k i =>
            obtain rfl : i = id := by simp only [Wr.fn] at hx2; split at hx2; assumption; cases hx2
            simp only [look, hok] at hv; cases hv
          | c i o =>
            obtain rfl : i = id := by simp only [Wr.fn] at hx2; split at hx2; assumption; cases hx2
            simp only [look, hok] at hv; cases hv
          | _ => cases hx2
        | nm c =>
          cases l with
          | n d' =>
            obtain rfl : d' = c := by simp only [Wr.fn] at hx2; split at hx2; assumption; cases hx2
            simp only [okWr, Bool.not_eq_true'] at hok
            simp only [look, hok] at hv; cases hv
          | _ => cases hx2
    dsimp only
    rw [hno, Option.getD_none, hI, put_other hd, hv]
  have ik : ∀ id, look I (.k id) = look σ0 (.k id) := fun id => by rw [hI]; exact put_other fun p _ => p.1.ne_k id
  have i2 : ∀ id, upds (look σ0) (putW (rdB' d y) (rdI' d y) 0 d) (.k id) = look σ0 (.k id) := fun id => put_other fun p _ => p.1.ne_k id
  have n1 : ∀ c, look I (.n c) = look σ0 (.n c) := fun c => by rw [hI]; exact put_other fun p _ => p.1.ne_n c
  have n2 : ∀ c, upds (look σ0) (putW (rdB' d y) (rdI' d y) 0 d) (.n c) = look σ0 (.n c) := fun c => put_other fun p _ => p.1.ne_n c
  have hS : Sub (look I) (upds (look σ0) (putW (rdB' d y) (rdI' d y) 0 d)) := ⟨fun id h => by unfold kn at h ⊢; rw [i2, ← ik]; exact h, fun c h => by unfold knn at h ⊢; rw [n2, ← n1]; exact h⟩
  -- what is read
  have dom : ∀ l, (∃ p : Pl × Lf, p ∈ d ∧ p.1.loc = l) → ∃ p : Pl, ∃ lf : Lf, ∃ i c, p.loc = l ∧ upds (look σ0) (putW (rdB' d y) (rdI' d y) 0 d) l = some (p.lv (lf.cv (rdB' d y) (rdI' d y) i)) ∧ look y l = some (p.lv c) ∧ ∀ e, (lf.cv (rdB' d y) (rdI' d y) i).den e = c.den e := by
    intro l hl'
    obtain ⟨i, p, lf, h1, h2, h3⟩ := put_at (bs := rdB' d y) (ns := rdI' d y) (s := look σ0) hl'
    have hp := List.all_eq_true.1 o1 _ (List.mem_of_getElem? h1)
    simp only [] at hp
    cases hc : p.rd y with
    | none => rw [hc] at hp; cases hp
    | some c =>
      rw [hc] at hp
      refine ⟨p, lf, i, c, h2, h3, by rw [← h2]; exact Pl.rd_look hc, fun e => fits_den hp ?_ ?_ e⟩
      · simp only [rdB', h1, hc]
      · simp only [rdI', h1, hc]
  refine hR.wk ⟨?_, ?_, ?_, ?_⟩ ⟨fun id p hp => hS.1 id (hR0.hp.pin.1 id p hp).2, fun c m hm => hS.2 c (hR0.hp.pin.2 c m hm).2⟩
  · intro t v hv
    by_cases hd : ∃ p : Pl × Lf, p ∈ d ∧ p.1.loc = .t t
    · obtain ⟨p, lf, i, c, h1, h2, h3, h4⟩ := dom _ hd
      rw [h2] at hv
      cases p with
      | t n =>
        obtain rfl : Sv.one (lf.cv (rdB' d y) (rdI' d y) i) = v := by simpa [Pl.lv] using hv
        exact ⟨⟨.one c, h3, h4⟩, lf.cv_sc _ _ _ _⟩
      | c id off => cases h1
    · have hd' : ∀ p : Pl × Lf, p ∈ d → p.1.loc ≠ .t t := fun p hp e => hd ⟨p, hp, e⟩
      rw [put_other hd'] at hv
      exact ⟨⟨v, keep _ _ hv hd', fun _ => rfl⟩, (hws.tm t v (by rw [hI, put_other hd']; exact hv)).sub hS⟩
  · intro id off v hv
    by_cases hd : ∃ p : Pl × Lf, p ∈ d ∧ p.1.loc = .c id off
    · obtain ⟨p, lf, i, c, h1, h2, h3, h4⟩ := dom _ hd
      rw [h2] at hv
      cases p with
      | t n => cases h1
      | c id' off' =>
        obtain rfl : lf.cv (rdB' d y) (rdI' d y) i = v := by simpa [Pl.lv] using hv
        refine ⟨⟨c, h3, h4⟩, lf.cv_sc _ _ _ _, ?_⟩
        obtain ⟨i', p', lf', g1, g2, g3⟩ := put_at (bs := bs) (ns := ns) (s := look σ0) hd
        cases p' with
        | t n => cases g2
        | c id'' off'' =>
          obtain ⟨_, t, ro, n, cp, q1, q2⟩ := hws.cl id off _ (by rw [hI]; exact g3)
          exact ⟨t, ro, n, cp, by rw [i2, ← ik]; exact q1, q2⟩
    · have hd' : ∀ p : Pl × Lf, p ∈ d → p.1.loc ≠ .c id off := fun p hp e => hd ⟨p, hp, e⟩
      rw [put_other hd'] at hv
      obtain ⟨q1, t, ro, n, cp, q2, q3⟩ := hws.cl id off v (by rw [hI, put_other hd']; exact hv)
      exact ⟨⟨v, keep _ _ hv hd', fun _ => rfl⟩, q1.sub hS, t, ro, n, cp, by rw [i2, ← ik]; exact q2, q3⟩
  · intro id b hb _
    rw [i2] at hb
    exact keep _ _ hb fun p _ => p.1.ne_k id
  · intro id b c es hb hc
    rw [i2, ← ik] at hb
    exact hS.2 c (hws.cp id b c es hb hc)
/-- A loop: every round leaves such a state again, or goes out. -/
theorem loop_ok {wf : List FuncId} {call : CallF} (hT : TbOk P tb) (hm : P.follows .mixedOrders = true) (hc : CallFOk P call) {N fuel : Nat} {body : Code} (d : Dom) (σ0 : St) (I : (Nat → Bool) → (Nat → Int) → St) (hI : ∀ bs ns, look (I bs ns) = upds (look σ0) (putW bs ns 0 d))
    (inv : (Nat → Bool) → (Nat → Int) → Prop) (μ : (Nat → Int) → Nat) (E : Leaf → Prop)
    (hstep : ∀ bs ns, inv bs ns → ∃ y, (evC tb wf call N [] fuel body (I bs ns)).At y ∧ ((y.1 = .normal ∧ okStep d σ0 (I bs ns) y.2 = true ∧ inv (rdB' d y.2) (rdI' d y.2) ∧ μ (rdI' d y.2) < μ ns) ∨ ((∃ i, y.1 = .exit i) ∨ y.1 = .ret) ∧ E y))
    {C : Ctx} {Q : Exit → Act → World → Prop} (hQ : ∀ y, E y → ∀ e a w, Rel C N e (look y.2) a w → Post P Q y.1 a w) :
    ∀ (n : Nat) bs ns, inv bs ns → μ ns < n → ∀ e a w, Rel C N e (look (I bs ns)) a w → Code.rounds P body Q n a w
  | 0, _, _, _, h, _, _, _, _ => by omega
  | n + 1, bs, ns, hi, hμ, e, a, w, hR => by
    obtain ⟨y, h1, h2⟩ := hstep bs ns hi
    show body.wp P (Exit.then (Code.rounds P body Q n) Q) a w
    refine evC_ok hT hm hc fuel body (I bs ns) y h1 C e a w _ hR fun e' a' w' hR' => ?_
    rcases h2 with ⟨ho, k1, k2, k3⟩ | ⟨ho, k1⟩
    · rw [ho]
      show Code.rounds P body Q n a' w'
      have hr := round_rel (hI bs ns) (evC_every.at_ h1) k1 hR hR'
      rw [← hI] at hr
      exact loop_ok hT hm hc d σ0 I hI inv μ E hstep hQ n _ _ k2 (by omega) e' a' w' hr
    · have := hQ y k1 e' a' w' hR'
      rcases ho with ⟨i, ho⟩ | ho
      · rw [ho] at this ⊢; exact this
      · rw [ho] at this ⊢; exact this
end
end Sx
end Go.Proofs.Ytladkknbkgomfaa

/-
  What stands behind a loop; a function with a loop.
-/
set_option linter.unusedSimpArgs false
set_option linter.unusedVariables false
namespace Go.Proofs.Ytladkknbkgomfaa
namespace Sx
open Go.RowKit

section
variable {P : Program} {tb : Tb}
/-- What was still to be done. -/
def evK (tb : Tb) (wf : List FuncId) (call : CallF) (N fuel : Nat) : List It → Leaf → Tree Leaf
  | [], x => match x.1 with
    | .stop _ => .fail
    | _ => .leaf x
  | .code c :: k, x => match x.1 with
    | .normal => (evC tb wf call N [] fuel c x.2).bind (evK tb wf call N fuel k)
    | .stop _ => .fail
    | _ => evK tb wf call N fuel k x
  | .blk id :: k, x => match x.1 with
    | .exit i => match Nat.beq i id with
      | true => evK tb wf call N fuel k (.normal, x.2)
      | false => evK tb wf call N fuel k x
    | .stop _ => .fail
    | _ => evK tb wf call N fuel k x
def outE : Out → Exit
  | .normal => .normal
  | .exit i => .exit i
  | .ret => .ret
  | .stop _ => .normal
theorem evK_stop {wf : List FuncId} {call : CallF} {N fuel : Nat} {l : List It} {σ : St} {y : Leaf} : ∀ {k : List It}, (evK tb wf call N fuel k (.stop l, σ)).At y → False
  | [], h => h
  | .code _ :: _, h => h
  | .blk _ :: _, h => h
theorem evK_ok {wf : List FuncId} {call : CallF} (hT : TbOk P tb) (hm : P.follows .mixedOrders = true) (hc : CallFOk P call) {N fuel : Nat} {C : Ctx} {Q : Exit → Act → World → Prop} : ∀ (k : List It) (o : Out) (σ : St) (y : Leaf), (evK tb wf call N fuel k (o, σ)).At y → (∀ e a w, Rel C N e (look y.2) a w → Post P Q y.1 a w) →
    ∀ e a w, Rel C N e (look σ) a w → stackPost P Q k (outE o) a w
  | [], o, σ, y, h, hQ, e, a, w, hR => by
    cases o with
    | stop l => exact (evK_stop h).elim
    | normal => obtain rfl : (Out.normal, σ) = y := h; exact hQ e a w hR
    | exit i => obtain rfl : (Out.exit i, σ) = y := h; exact hQ e a w hR
    | ret => obtain rfl : (Out.ret, σ) = y := h; exact hQ e a w hR
  | .code c :: k, o, σ, y, h, hQ, e, a, w, hR => by
    cases o with
    | normal =>
      obtain ⟨z, h1, h2⟩ := Tree.At_bind.1 (show (Tree.bind _ _).At y from h)
      show c.wp P (stackPost P Q k) a w
      refine evC_ok hT hm hc fuel c σ z h1 C e a w _ hR fun e' a' w' hR' => ?_
      obtain ⟨o', σ'⟩ := z
      have ih := evK_ok hT hm hc k o' σ' y h2 hQ e' a' w' hR'
      cases o' with
      | stop l => exact (evK_stop h2).elim
      | normal => exact ih
      | exit i => exact ih
      | ret => exact ih
    | exit i => exact evK_ok hT hm hc k (.exit i) σ y h hQ e a w hR
    | ret => exact evK_ok hT hm hc k .ret σ y h hQ e a w hR
    | stop l => exact (evK_stop h).elim
  | .blk id :: k, o, σ, y, h, hQ, e, a, w, hR => by
    cases o with
    | normal => exact evK_ok hT hm hc k .normal σ y h hQ e a w hR
    | exit i =>
      simp only [evK] at h
      show (if i = id then stackPost P Q k .normal a w else stackPost P Q k (.exit i) a w)
      split at h
      · rename_i hb
        rw [if_pos (beq_iff'.1 hb)]
        exact evK_ok hT hm hc k .normal σ y h hQ e a w hR
      · rename_i hb
        rw [if_neg (beq_ff.1 hb)]
        exact evK_ok hT hm hc k (.exit i) σ y h hQ e a w hR
    | ret => exact evK_ok hT hm hc k .ret σ y h hQ e a w hR
    | stop l => exact (evK_stop h).elim
/-- Ahead of the first round: the changing places are read. -/
theorem init_rel {C : Ctx} {N : Nat} {e : Env} {a : Act} {w : World} {d : Dom} {σ : St} (ok : (d.all fun p => match p.1.rd σ with
    | some c => p.2.fits c
    | none => false) = true) (hR : Rel C N e (look σ) a w) : Rel C N e (upds (look σ) (putW (rdB' d σ) (rdI' d σ) 0 d)) a w := by
  have hws := hR.ws
  have i2 : ∀ id, upds (look σ) (putW (rdB' d σ) (rdI' d σ) 0 d) (.k id) = look σ (.k id) := fun id => put_other fun p _ => p.1.ne_k id
  have n2 : ∀ c, upds (look σ) (putW (rdB' d σ) (rdI' d σ) 0 d) (.n c) = look σ (.n c) := fun c => put_other fun p _ => p.1.ne_n c
  have hS : Sub (look σ) (upds (look σ) (putW (rdB' d σ) (rdI' d σ) 0 d)) := ⟨fun id h => by unfold kn at h ⊢; rw [i2]; exact h, fun c h => by unfold knn at h ⊢; rw [n2]; exact h⟩
  have dom : ∀ l, (∃ p : Pl × Lf, p ∈ d ∧ p.1.loc = l) → ∃ p : Pl, ∃ lf : Lf, ∃ i c, p.loc = l ∧ upds (look σ) (putW (rdB' d σ) (rdI' d σ) 0 d) l = some (p.lv (lf.cv (rdB' d σ) (rdI' d σ) i)) ∧ look σ l = some (p.lv c) ∧ ∀ e, (lf.cv (rdB' d σ) (rdI' d σ) i).den e = c.den e := by
    intro l hl'
    obtain ⟨i, p, lf, h1, h2, h3⟩ := put_at (bs := rdB' d σ) (ns := rdI' d σ) (s := look σ) hl'
    have hp := List.all_eq_true.1 ok _ (List.mem_of_getElem? h1)
    simp only [] at hp
    cases hc : p.rd σ with
    | none => rw [hc] at hp; cases hp
    | some c =>
      rw [hc] at hp
      refine ⟨p, lf, i, c, h2, h3, by rw [← h2]; exact Pl.rd_look hc, fun e => fits_den hp ?_ ?_ e⟩
      · simp only [rdB', h1, hc]
      · simp only [rdI', h1, hc]
  refine hR.wk ⟨?_, ?_, ?_, ?_⟩ ⟨fun id p hp => hS.1 id (hR.hp.pin.1 id p hp).2, fun c m hm => hS.2 c (hR.hp.pin.2 c m hm).2⟩
  · intro t v hv
    by_cases hd : ∃ p : Pl × Lf, p ∈ d ∧ p.1.loc = .t t
    · obtain ⟨p, lf, i, c, h1, h2, h3, h4⟩ := dom _ hd
      rw [h2] at hv
      cases p with
      | t n =>
        obtain rfl : Sv.one (lf.cv (rdB' d σ) (rdI' d σ) i) = v := by simpa [Pl.lv] using hv
        exact ⟨⟨.one c, h3, h4⟩, lf.cv_sc _ _ _ _⟩
      | c id off => cases h1
    · have hd' : ∀ p : Pl × Lf, p ∈ d → p.1.loc ≠ .t t := fun p hp e => hd ⟨p, hp, e⟩
      rw [put_other hd'] at hv
      exact ⟨⟨v, hv, fun _ => rfl⟩, (hws.tm t v hv).sub hS⟩
  · intro id off v hv
    by_cases hd : ∃ p : Pl × Lf, p ∈ d ∧ p.1.loc = .c id off
    · obtain ⟨p, lf, i, c, h1, h2, h3, h4⟩ := dom _ hd
      rw [h2] at hv
      cases p with
      | t n => cases h1
      | c id' off' =>
        obtain rfl : lf.cv (rdB' d σ) (rdI' d σ) i = v := by simpa [Pl.lv] using hv
        obtain ⟨_, t, ro, n, cp, q1, q2⟩ := hws.cl id off _ h3
        exact ⟨⟨c, h3, h4⟩, lf.cv_sc _ _ _ _, t, ro, n, cp, by rw [i2]; exact q1, q2⟩
    · have hd' : ∀ p : Pl × Lf, p ∈ d → p.1.loc ≠ .c id off := fun p hp e => hd ⟨p, hp, e⟩
      rw [put_other hd'] at hv
      obtain ⟨q1, t, ro, n, cp, q2, q3⟩ := hws.cl id off v hv
      exact ⟨⟨v, hv, fun _ => rfl⟩, q1.sub hS, t, ro, n, cp, by rw [i2]; exact q2, q3⟩
  · intro id b hb _
    rw [i2] at hb
    exact hb
  · intro id b c es hb hc
    rw [i2] at hb
    exact hS.2 c (hws.cp id b c es hb hc)
/-- A loop that code has stopped at: from there on to the end. -/
theorem stop_loop {F : Leaf → Prop} {wf : List FuncId} {call : CallF} (hT : TbOk P tb) (hm : P.follows .mixedOrders = true) (hc : CallFOk P call) {N fuel : Nat} {body : Code} {k : Nat} {rest : List It} (d : Dom) (σ : St) (I : (Nat → Bool) → (Nat → Int) → St) (hI : ∀ bs ns, look (I bs ns) = upds (look σ) (putW bs ns 0 d))
    (ok : (d.all fun p => match p.1.rd σ with
      | some c => p.2.fits c
      | none => false) = true)
    (inv : (Nat → Bool) → (Nat → Int) → Prop) (μ : (Nat → Int) → Nat) (h0 : inv (rdB' d σ) (rdI' d σ))
    (hstep : ∀ bs ns, inv bs ns → ∃ y, (evC tb wf call N [] fuel body (I bs ns)).At y ∧ ((y.1 = .normal ∧ okStep d σ (I bs ns) y.2 = true ∧ inv (rdB' d y.2) (rdI' d y.2) ∧ μ (rdI' d y.2) < μ ns) ∨
      ((∃ i, y.1 = .exit i) ∨ y.1 = .ret) ∧ ∃ z, (evK tb wf call N fuel (.blk k :: rest) y).At z ∧ F z))
    {C : Ctx} {Q : Exit → Act → World → Prop} (hQ : ∀ z, F z → ∀ e a w, Rel C N e (look z.2) a w → Post P Q z.1 a w) {e : Env} {a : Act} {w : World} (hR : Rel C N e (look σ) a w) :
    stackPost P Q (.code (.block k (.loop body)) :: rest) .normal a w := by
  show (Code.block k (.loop body)).wp P (stackPost P Q rest) a w
  refine wp_block (wp_loop_rounds (μ (rdI' d σ) + 1) ?_)
  refine loop_ok (wf := wf) (fuel := fuel) hT hm hc d σ I hI inv μ (fun y => ((∃ i, y.1 = .exit i) ∨ y.1 = .ret) ∧ ∃ z, (evK tb wf call N fuel (.blk k :: rest) y).At z ∧ F z) (fun bs ns hi => ?_) (C := C) (Q := Exit.inBlock k (stackPost P Q rest)) ?_ _ _ _ h0 (Nat.lt_succ_self _) e a w (by rw [hI]; exact init_rel ok hR)
  · obtain ⟨y, h1, h2⟩ := hstep bs ns hi
    refine ⟨y, h1, ?_⟩
    rcases h2 with h2 | ⟨h2, h3⟩
    · exact Or.inl h2
    · exact Or.inr ⟨h2, h2, h3⟩
  · rintro ⟨o, σ'⟩ ⟨ho, z, hz, hF⟩ e' a' w' hR'
    have := evK_ok hT hm hc (.blk k :: rest) o σ' z hz (fun e a w hR => hQ z hF e a w hR) e' a' w' hR'
    rcases ho with ⟨i, ho⟩ | ho
    · simp only at ho; subst ho; exact this
    · simp only at ho; subst ho; exact this
end
end Sx
end Go.Proofs.Ytladkknbkgomfaa

/-
  A function that writes into one block that it is handed, and reads one more: what is known of it at one state is known at every state that has the two blocks.
-/
set_option linter.unusedSimpArgs false
set_option linter.unusedVariables false
namespace Go.Proofs.Ytladkknbkgomfaa
namespace Sx
open Go.RowKit

section
variable {P : Program} {tb : Tb}
/-- A block at 1 that may be written, a block at 0 that is read. -/
def stW (T : TypeId) (cs : List Cv) (Tg : TypeId) (gs : List Cv) : St := { tm := [], bk := [(1, .ar T false cs none), (0, .ar Tg true gs none)], nx := 2, nl := [], nn := 0, lg := [], vr := [] }
def rho (id gid : Nat) : Nat → Nat := fun i => if i = 1 then id else gid
def Blk.putL (cs : List Cv) : Blk → Blk
  | .ar t ro _ cp => .ar t ro cs cp
  | b => b
def putC (σ : St) (id : Nat) (cs : List Cv) : St := { σ with bk := amod (Blk.putL cs) σ.bk id, lg := (cellWrs id 0 cs).reverse ++ σ.lg }
theorem mem_cellWrs {id : Nat} : ∀ {cs : List Cv} {o j : Nat}, j < cs.length → ∃ v, Wr.cell id (o + j) v ∈ cellWrs id o cs
  | [], _, _, h => by simp at h
  | c :: cs, o, 0, _ => ⟨c, List.mem_cons_self⟩
  | c :: cs, o, j + 1, h => by
    obtain ⟨v, hv⟩ := mem_cellWrs (id := id) (cs := cs) (o := o + 1) (j := j) (by simpa using h)
    exact ⟨v, List.mem_cons_of_mem _ (by rwa [show o + (j + 1) = o + 1 + j by omega])⟩
theorem inB_den {c : Cv} {K : List Nat} (h : c.inB K [] = true) {e e' : Env} (hA : ∀ i, memb K i = true → e'.pl i = e.pl i) : c.den e' = c.den e := by
  refine Cv.den_agree (s := stoOf K []) ⟨fun i hi => hA i ?_, fun d hd => ?_⟩ (Cv.inB_sc h)
  · unfold kn at hi; simp only [stoOf] at hi
    split at hi
    · assumption
    · cases hi
  · unfold knn at hd; simp only [stoOf, memb] at hd; cases hd
theorem ren_sc {c : Cv} {K : List Nat} (h : c.inB K [] = true) {ρ : Nat → Nat} {s : Sto} (hk : ∀ i, memb K i = true → kn s (ρ i)) : (c.ren ρ).sc s := by
  have hn : ∀ n : Sn, n.inB [] = true → n.sc s := fun n hn => by cases n <;> first | trivial | cases hn
  cases c with
  | ptr id off =>
    simp only [Cv.inB, Bool.and_eq_true] at h
    exact ⟨hk id h.1, hn _ h.2⟩
  | slc id off len cap =>
    simp only [Cv.inB, Bool.and_eq_true] at h
    exact ⟨hk id h.1.1.1, hn _ h.1.1.2, hn _ h.1.2, hn _ h.2⟩
  | fn f caps =>
    intro p hp
    obtain ⟨q, hq, rfl⟩ := List.mem_map.1 hp
    have := List.all_eq_true.1 h q hq
    cases q with
    | ptr id off => exact hk id this
    | val v l => trivial
  | _ => trivial
theorem sub_st (T : TypeId) (cs : List Cv) (Tg : TypeId) (gs : List Cv) : Sub (stoOf [1, 0] []) (look (stW T cs Tg gs)) := by
  refine ⟨fun i hi => ?_, fun c hc => ?_⟩
  · have hm : memb [1, 0] i = true := by
      unfold kn at hi; simp only [stoOf] at hi
      split at hi
      · assumption
      · cases hi
    have := memb_iff.1 hm
    simp only [List.mem_cons, List.not_mem_nil, or_false] at this
    rcases this with rfl | rfl <;> rfl
  · unfold knn at hc; simp only [stoOf, memb] at hc; cases hc
theorem FunOk.renW {f : FuncId} {args0 args : List Sv} {T Tg : TypeId} {cs gs cs' cs1 gs1 : List Cv} {σ0' σ : St} {v : Sv} {ro : Bool} {cpg : Option (Nat × Nat)} {id gid : Nat} (h : FunOk P f args0 (stW T cs Tg gs) v σ0')
    (hb : alook σ.bk id = some (.ar T false cs1 none)) (hg : alook σ.bk gid = some (.ar Tg ro gs1 cpg)) (hne : id ≠ gid) (sc1 : SameCells (rho id gid) cs cs1) (sg : SameCells (rho id gid) gs gs1)
    (ics : cs.all (Cv.inB [1, 0] []) = true) (igs : gs.all (Cv.inB [1, 0] []) = true)
    (hr : alook σ0'.bk 1 = some (.ar T false cs' none)) (hlen : cs'.length = cs.length) (ics' : cs'.all (Cv.inB [1, 0] []) = true)
    (ha : ∀ e, args.map (·.den e) = args0.map (·.den (e.ren (rho id gid)))) (hs : ∀ x ∈ args0, x.sc (look (stW T cs Tg gs))) (hv : v.freeB = true) :
    FunOk P f args σ v (putC σ id (cs'.map (Cv.ren (rho id gid)))) := by
  have hkeep : KeepL σ (putC σ id (cs'.map (Cv.ren (rho id gid)))) := by
    intro i off _ hu
    by_cases hi : i = id
    · subst hi
      have hlen1 : cs1.length = cs.length := sc1.1
      have hge : cs.length ≤ off := by
        rcases Nat.lt_or_ge off cs.length with h1 | h1
        · exfalso
          obtain ⟨v, hv⟩ := mem_cellWrs (id := i) (cs := cs'.map (Cv.ren (rho i gid))) (o := 0) (j := off) (by rw [List.length_map, hlen]; exact h1)
          have := List.all_eq_true.1 hu _ (List.mem_append_left _ (List.mem_reverse.2 hv))
          simp at this
        · exact h1
      simp only [look, putC, alook_amod, if_true, hb, Option.map_some, Option.bind_some, Blk.putL, Blk.cell]
      rw [List.getElem?_eq_none (by rw [List.length_map, hlen]; exact hge), List.getElem?_eq_none (by rw [hlen1]; exact hge)]
    · simp only [look, putC, alook_amod, if_neg hi]
  refine ⟨fun C e w hp _ => ?_, hkeep⟩
  have S0 := sub_st T cs Tg gs
  have k1 : look σ (.k id) = some (.bk (.ar T false cs1.length none)) := by simp only [look, hb]; rfl
  have kg : look σ (.k gid) = some (.bk (.ar Tg ro gs1.length cpg)) := by simp only [look, hg]; rfl
  have r1 : rho id gid 1 = id := rfl
  have r0 : rho id gid 0 = gid := rfl
  let C1 : Ctx := ⟨fun k => k = (e.pl id).1 ∨ w.heap.size ≤ k, fun _ => none, fun _ => none, w⟩
  have cellOf : ∀ {i : Nat} {b0 b1 : List Cv} {j : Nat} {c : Cv} {t : TypeId} {r : Bool} {cp : Option (Nat × Nat)}, alook σ.bk (rho id gid i) = some (.ar t r b1 cp) → SameCells (rho id gid) b0 b1 → b0[j]? = some c → w.cell? ((e.ren (rho id gid)).ad i j) = some (c.den (e.ren (rho id gid))) := by
    intro i b0 b1 j c t r cp hbk hsame hc
    have hlt := (List.getElem?_eq_some_iff.1 hc).1
    have hlt1 : j < b1.length := by rw [hsame.1]; exact hlt
    have h5 := hsame.2 e j
    rw [hc, List.getElem?_eq_getElem hlt1] at h5
    have h5 : (b1[j]).den e = c.den (e.ren (rho id gid)) := by simpa using h5
    have h6 : look σ (.c (rho id gid i) j) = some (.cv b1[j]) := by
      simp only [look, hbk, Option.bind_some, Blk.cell, List.getElem?_eq_getElem hlt1, Option.map_some]
    obtain ⟨_, _, h7⟩ := hp.cl _ _ _ h6
    rw [h5] at h7
    exact h7
  have two : ∀ i b, look (stW T cs Tg gs) (.k i) = some (.bk b) → (i = 1 ∧ b = .ar T false cs.length none) ∨ (i = 0 ∧ b = .ar Tg true gs.length none) := by
    intro i b hib
    simp only [look, stW, alook] at hib
    cases h1 : Nat.beq 1 i with
    | true =>
      rw [h1] at hib
      obtain rfl := beq_iff'.1 h1
      exact Or.inl ⟨rfl, by simpa [Blk.info] using hib.symm⟩
    | false =>
      rw [h1] at hib
      cases h0 : Nat.beq 0 i with
      | true =>
        rw [h0] at hib
        obtain rfl := beq_iff'.1 h0
        exact Or.inr ⟨rfl, by simpa [Blk.info] using hib.symm⟩
      | false => rw [h0] at hib; cases hib
  have hp0 : Hp C1 (e.ren (rho id gid)) (look (stW T cs Tg gs)) w := by
    refine ⟨fun k hk => Or.inr hk, ?_, ?_, ?_, ?_, ?_, ?_, ?_, ⟨fun _ _ h => (by cases h), fun _ _ h => (by cases h)⟩, ⟨rfl, rfl, rfl, Nat.le_refl _, fun _ _ _ => rfl, hp.fr.glob fun k hk hm => by
      rcases hm with hm | hm
      · exact hm ▸ hp.mu id _ k1 rfl
      · have : w.heap.size ≤ k := hm
        have := hp.fr.size
        omega⟩⟩
    · intro i j c hc
      simp only [look, stW, alook] at hc
      cases h1 : Nat.beq 1 i with
      | true =>
        rw [h1] at hc
        obtain rfl := beq_iff'.1 h1
        obtain ⟨c', hc1, hc2⟩ := Option.map_eq_some_iff.1 (show (cs[j]?).map LV.cv = some (.cv c) from hc)
        obtain rfl : c' = c := by simpa using hc2
        exact ⟨(Cv.inB_sc (List.all_eq_true.1 ics _ (List.mem_of_getElem? hc1))).sub S0, ⟨T, false, cs.length, none, rfl, (List.getElem?_eq_some_iff.1 hc1).1⟩, cellOf (i := 1) hb sc1 hc1⟩
      | false =>
        rw [h1] at hc
        cases h0 : Nat.beq 0 i with
        | true =>
          rw [h0] at hc
          obtain rfl := beq_iff'.1 h0
          obtain ⟨c', hc1, hc2⟩ := Option.map_eq_some_iff.1 (show (gs[j]?).map LV.cv = some (.cv c) from hc)
          obtain rfl : c' = c := by simpa using hc2
          exact ⟨(Cv.inB_sc (List.all_eq_true.1 igs _ (List.mem_of_getElem? hc1))).sub S0, ⟨Tg, true, gs.length, none, rfl, (List.getElem?_eq_some_iff.1 hc1).1⟩, cellOf (i := 0) hg sg hc1⟩
        | false => rw [h0] at hc; cases hc
    · intro i t n cp hi off ho
      rcases two i _ hi with ⟨rfl, h2⟩ | ⟨rfl, h2⟩
      · cases h2
        exact hp.ar id T cs1.length none k1 off (by rw [sc1.1]; exact ho)
      · cases h2
    · intro i t r n f cp hi
      rcases two i _ hi with ⟨_, h2⟩ | ⟨_, h2⟩ <;> cases h2
    · intro i b c es hi hcp
      rcases two i _ hi with ⟨_, rfl⟩ | ⟨_, rfl⟩ <;> cases hcp
    · intro i j b b' hi hj hrw hl hij
      rcases two i _ hi with ⟨rfl, rfl⟩ | ⟨rfl, rfl⟩
      · rcases two j _ hj with ⟨rfl, _⟩ | ⟨rfl, _⟩
        · exact absurd rfl hij
        · exact hp.inj id gid _ _ k1 kg rfl rfl hne
      · cases hrw
    · intro i b hi hl
      rcases two i _ hi with ⟨rfl, _⟩ | ⟨rfl, _⟩
      · exact hp.lt id _ k1 rfl
      · exact hp.lt gid _ kg rfl
    · intro i b hi hrw
      rcases two i _ hi with ⟨rfl, rfl⟩ | ⟨rfl, rfl⟩
      · exact Or.inl rfl
      · cases hrw
  have h1 := h.run C1 (e.ren (rho id gid)) w hp0 hs
  rw [ha e]
  refine h1.mono fun en w' => ?_
  rintro ⟨e', hA, hp', rfl, -⟩
  have hpl : ∀ i, memb [1, 0] i = true → e'.pl i = (e.ren (rho id gid)).pl i := fun i hi => hA.1 i (S0.1 i (kn_stoOf hi))
  have kn' : ∀ i, memb [1, 0] i = true → kn (look (putC σ id (cs'.map (Cv.ren (rho id gid))))) (rho id gid i) := by
    intro i hi
    rw [kn_look]
    simp only [putC, alook_amod]
    have := memb_iff.1 hi
    simp only [List.mem_cons, List.not_mem_nil, or_false] at this
    rcases this with rfl | rfl
    · rw [r1, if_pos rfl, hb]; rfl
    · rw [r0, if_neg (Ne.symm hne), hg]; rfl
  have kk : ∀ i, look (putC σ id (cs'.map (Cv.ren (rho id gid)))) (.k i) = look σ (.k i) := by
    intro i
    simp only [look, putC, alook_amod]
    split
    · rename_i e1
      subst e1
      rw [hb]
      simp only [Option.map_some, Blk.putL, Blk.info, List.length_map, hlen, sc1.1]
    · rfl
  have kc : ∀ i off, i ≠ id → look (putC σ id (cs'.map (Cv.ren (rho id gid)))) (.c i off) = look σ (.c i off) := by
    intro i off hi
    simp only [look, putC, alook_amod, if_neg hi]
  have kcid : ∀ off, look (putC σ id (cs'.map (Cv.ren (rho id gid)))) (.c id off) = ((cs'[off]?).map (Cv.ren (rho id gid))).map .cv := by
    intro off
    simp only [look, putC, alook_amod, if_true, hb, Option.map_some, Option.bind_some, Blk.putL, Blk.cell, List.getElem?_map]
  have hS : Sub (look σ) (look (putC σ id (cs'.map (Cv.ren (rho id gid))))) := ⟨fun i hi => by unfold kn at hi ⊢; rw [kk]; exact hi, fun _ hc => hc⟩
  have ad1 : ∀ off, e'.ad 1 off = e.ad id off := fun off => by
    unfold Env.ad; rw [hpl 1 rfl]; rfl
  have kr : look σ0' (.k 1) = some (.bk (.ar T false cs'.length none)) := by simp only [look, hr]; rfl
  have keep : ∀ i b, i ≠ id → look σ (.k i) = some (.bk b) → b.live = true → w'.heap[(e.pl i).1]? = w.heap[(e.pl i).1]? := by
    intro i b hi hbk hl
    refine hp'.fr.block _ (hp.lt i b hbk hl) ?_
    rintro (h2 | h2)
    · exact hp.inj id i _ b k1 hbk rfl hl (Ne.symm hi) h2.symm
    · have := hp.lt i b hbk hl
      omega
  refine ⟨e, Agree.refl _ _, ⟨hp.new, ?_, ?_, ?_, ?_, ?_, ?_, ?_, hp.pin.mono (Agree.refl _ _) hS, ?_⟩, by rw [Sv.free_den hv e' e], Sv.free_sc hv _⟩
  · intro i off x hx
    by_cases hi : i = id
    · subst hi
      rw [kcid] at hx
      obtain ⟨c2, hc2, hc3⟩ := Option.map_eq_some_iff.1 hx
      obtain ⟨c, hc, rfl⟩ := Option.map_eq_some_iff.1 hc2
      obtain rfl : c.ren (rho i gid) = x := by simpa using hc3
      have hin := List.all_eq_true.1 ics' _ (List.mem_of_getElem? hc)
      refine ⟨ren_sc hin kn', ⟨T, false, cs1.length, none, by rw [kk]; exact k1, ?_⟩, ?_⟩
      · have := (List.getElem?_eq_some_iff.1 hc).1
        rw [sc1.1, ← hlen]; exact this
      · have h7 := (hp'.cl 1 off c (by simp only [look, hr, Option.bind_some, Blk.cell, hc]; rfl)).2.2
        rw [ad1] at h7
        rw [h7, Cv.ren_den, inB_den hin hpl]
    · rw [kc i off hi] at hx
      obtain ⟨q1, ⟨t, r, n, cp, q2, q3⟩, q4⟩ := hp.cl i off x hx
      exact ⟨q1.sub hS, ⟨t, r, n, cp, by rw [kk]; exact q2, q3⟩, (World.cell?_of_block (w := w) (keep i _ hi q2 rfl)).trans q4⟩
  · intro i t n cp hx off ho
    rw [kk] at hx
    by_cases hi : i = id
    · subst hi
      rw [k1] at hx
      obtain ⟨rfl, rfl, rfl⟩ : T = t ∧ cs1.length = n ∧ none = cp := by simpa using hx
      have := hp'.ar 1 T cs'.length none kr off (by rw [hlen, ← sc1.1]; exact ho)
      rw [ad1] at this
      exact this
    · have hk := keep i _ hi hx rfl
      have := hp.ar i t n cp hx off ho
      exact ⟨(World.frozen?_of_block (w := w) hk).trans this.1, by rw [World.cell?_of_block (w := w) hk]; exact this.2⟩
  · intro i t r n f cp hx off ho
    rw [kk] at hx
    by_cases hi : i = id
    · subst hi; rw [k1] at hx; cases hx
    · have hk := keep i _ hi hx rfl
      have := hp.oq i t r n f cp hx off ho
      exact ⟨(World.cell?_of_block (w := w) hk).trans this.1, fun hro => (World.frozen?_of_block (w := w) hk).trans (this.2 hro)⟩
  · intro i b c es hx hcp
    rw [kk] at hx
    by_cases hi : i = id
    · subst hi
      rw [k1] at hx
      obtain rfl : BI.ar T false cs1.length none = b := by simpa using hx
      cases hcp
    · have hl : b.live = true := by cases b <;> first | rfl | cases hcp
      obtain ⟨q1, q2, a, q3, q4⟩ := hp.cp i b c es hx hcp
      exact ⟨hS.2 c q1, q2, a, (keep i b hi hx hl).trans q3, q4⟩
  · intro i j b b' hi hj hrw hl hij
    rw [kk] at hi hj
    exact hp.inj i j b b' hi hj hrw hl hij
  · intro i b hi hl
    rw [kk] at hi
    exact Nat.lt_of_lt_of_le (hp.lt i b hi hl) hp'.fr.size
  · intro i b hi hrw
    rw [kk] at hi
    exact hp.mu i b hi hrw
  · have F := hp.fr
    have G := hp'.fr
    refine ⟨G.os.trans F.os, G.tape.trans F.tape, G.output.trans F.output, Nat.le_trans F.size G.size, fun k hk hM => ?_, F.gl⟩
    refine (G.block k (Nat.lt_of_lt_of_le hk F.size) ?_).trans (F.block k hk hM)
    rintro (h2 | h2)
    · exact hM (h2 ▸ hp.mu id _ k1 rfl)
    · have : w.heap.size ≤ k := h2
      have := F.size
      omega
/-- Cells that come to the same. -/
theorem FunOk.cells {f : FuncId} {args : List Sv} {σ : St} {v : Sv} {id : Nat} {t : TypeId} {ro : Bool} {cs1 A B : List Cv} {cp : Option (Nat × Nat)} (h : FunOk P f args σ v (putC σ id A)) (hb : alook σ.bk id = some (.ar t ro cs1 cp)) (hl : B.length = A.length) (hl1 : B.length = cs1.length)
    (hd : ∀ (e : Env) (j : Nat), (B[j]?).map (Cv.den e) = (A[j]?).map (Cv.den e)) (hs : ∀ c ∈ B, ∀ s : Sto, (∀ i, kn (look σ) i → kn s i) → c.sc s) (hv : v.freeB = true) : FunOk P f args σ v (putC σ id B) := by
  have kk : ∀ i, look (putC σ id B) (.k i) = look (putC σ id A) (.k i) := by
    intro i
    simp only [look, putC, alook_amod]
    split
    · rename_i e1; subst e1
      rw [hb]; simp only [Option.map_some, Blk.putL, Blk.info, hl]
    · rfl
  have kc : ∀ i off, i ≠ id → look (putC σ id B) (.c i off) = look (putC σ id A) (.c i off) := by
    intro i off hi
    simp only [look, putC, alook_amod, if_neg hi]
  have kA : ∀ off, look (putC σ id A) (.c id off) = (A[off]?).map .cv := by
    intro off; simp only [look, putC, alook_amod, if_true, hb, Option.map_some, Option.bind_some, Blk.putL, Blk.cell]
  have kB : ∀ off, look (putC σ id B) (.c id off) = (B[off]?).map .cv := by
    intro off; simp only [look, putC, alook_amod, if_true, hb, Option.map_some, Option.bind_some, Blk.putL, Blk.cell]
  have hS : Sub (look (putC σ id A)) (look (putC σ id B)) := ⟨fun i hi => by unfold kn at hi ⊢; rw [kk]; exact hi, fun _ hc => hc⟩
  have hS0 : ∀ i, kn (look σ) i → kn (look (putC σ id B)) i := by
    intro i hi
    rw [kn_look] at hi ⊢
    simp only [putC, alook_amod]
    split
    · rename_i e1; subst e1; rw [hb]; rfl
    · exact hi
  refine ⟨fun C e w hp ha => (h.run C e w hp ha).mono fun en w' => ?_, ?_⟩
  · rintro ⟨e', hA, hp', rfl, -⟩
    refine ⟨e', hA, ⟨hp'.new, ?_, fun i t n cp hx => hp'.ar i t n cp (by rw [← kk]; exact hx), fun i t r n f cp hx => hp'.oq i t r n f cp (by rw [← kk]; exact hx), fun i b c es hx => hp'.cp i b c es (by rw [← kk]; exact hx), fun i j b b' hx hy => hp'.inj i j b b' (by rw [← kk]; exact hx) (by rw [← kk]; exact hy),
      fun i b hx => hp'.lt i b (by rw [← kk]; exact hx), fun i b hx => hp'.mu i b (by rw [← kk]; exact hx), hp'.pin.mono (Agree.refl _ _) hS, hp'.fr⟩, rfl, Sv.free_sc hv _⟩
    intro i off x hx
    by_cases hi : i = id
    · subst hi
      rw [kB] at hx
      obtain ⟨c, hc, hc2⟩ := Option.map_eq_some_iff.1 hx
      obtain rfl : c = x := by simpa using hc2
      have hlt : off < A.length := by rw [← hl]; exact (List.getElem?_eq_some_iff.1 hc).1
      have h5 := hd e' off
      rw [hc, List.getElem?_eq_getElem hlt] at h5
      have h5 : c.den e' = (A[off]).den e' := by simpa using h5
      obtain ⟨_, ⟨t, r, n, cp, q2, q3⟩, q4⟩ := hp'.cl i off A[off] (by rw [kA, List.getElem?_eq_getElem hlt]; rfl)
      exact ⟨hs c (List.mem_of_getElem? hc) _ hS0, ⟨t, r, n, cp, by rw [kk]; exact q2, q3⟩, by rw [h5]; exact q4⟩
    · rw [kc i off hi] at hx
      obtain ⟨q1, ⟨t, r, n, cp, q2, q3⟩, q4⟩ := hp'.cl i off x hx
      exact ⟨q1.sub hS, ⟨t, r, n, cp, by rw [kk]; exact q2, q3⟩, q4⟩
  · intro i off _ hu
    by_cases hi : i = id
    · subst hi
      have hge : B.length ≤ off := by
        rcases Nat.lt_or_ge off B.length with h1 | h1
        · exfalso
          obtain ⟨v, hv⟩ := mem_cellWrs (id := i) (cs := B) (o := 0) (j := off) h1
          have := List.all_eq_true.1 hu _ (List.mem_append_left _ (List.mem_reverse.2 hv))
          simp at this
        · exact h1
      rw [kB, List.getElem?_eq_none hge]
      simp only [look, hb, Option.bind_some, Blk.cell]
      rw [List.getElem?_eq_none (by omega)]
    · simp only [look, putC, alook_amod, if_neg hi]
end
end Sx
end Go.Proofs.Ytladkknbkgomfaa

/-
  Code that is stopped at loops: what stands behind a stop is a stack, which is gone on with by hand.
-/
set_option linter.unusedSimpArgs false
set_option linter.unusedVariables false
namespace Go.Proofs.Ytladkknbkgomfaa
namespace Sx
open Go.RowKit

section
variable {P : Program} {tb : Tb}

/-- From the head of a loop's round. -/
def LoopFrom (P : Program) (c : Code) (Q : Exit → Act → World → Prop) (a : Act) (w : World) : Prop :=
  ∀ b k cs, ∃ e a' w', Q e a' w' ∧ Arrives P (lone (b.at a (.code c :: .inLoop c :: k)) cs w) b k cs e a' w'
theorem LoopFrom.wp {c : Code} {Q : Exit → Act → World → Prop} {a : Act} {w : World} (h : LoopFrom P c Q a w) : (Code.loop c).wp P Q a w := by
  intro b k cs
  obtain ⟨e, a', w', hq, harr⟩ := h b k cs
  exact ⟨e, a', w', hq, .of_steps (.one step_loop) harr⟩
theorem LoopFrom.once {c : Code} {Q : Exit → Act → World → Prop} {a : Act} {w : World} (h : c.wp P (Exit.then (LoopFrom P c Q) Q) a w) : LoopFrom P c Q a w := by
  intro b k cs
  obtain ⟨e, a₁, w₁, hq, harr⟩ := h b (.inLoop c :: k) cs
  cases e with
  | normal =>
    obtain ⟨e₂, a₂, w₂, hq₂, harr₂⟩ := hq b k cs
    exact ⟨e₂, a₂, w₂, hq₂, .of_steps (Steps.trans harr (.one step_inLoop)) harr₂⟩
  | exit id => exact ⟨_, a₁, w₁, hq, .pass (x := .inLoop c) rfl (fun _ _ => .inl (by simp)) harr⟩
  | goto l => exact ⟨_, a₁, w₁, hq, .pass (x := .inLoop c) rfl (fun _ _ => .inl (by simp)) harr⟩
  | ret => exact ⟨_, a₁, w₁, hq, .pass (x := .inLoop c) rfl (fun _ _ => .inl (by simp)) harr⟩
  | panic ch => exact ⟨_, a₁, w₁, hq, .pass (x := .inLoop c) rfl (fun _ _ => .inl (by simp)) harr⟩
  | outgrown => exact ⟨_, a₁, w₁, hq, .pass (x := .inLoop c) rfl (fun _ _ => .inl (by simp)) harr⟩
theorem LoopFrom.rounds {c : Code} {Q : Exit → Act → World → Prop} : ∀ {n : Nat} {a : Act} {w : World}, Code.rounds P c Q n a w → LoopFrom P c Q a w
  | 0, _, _, h => h.elim
  | n + 1, a, w, h => LoopFrom.once (Code.wp_mono (fun e a' w' q => by
      cases e with
      | normal => exact LoopFrom.rounds (n := n) q
      | _ => exact q) h)

/-- What is still to be done. -/
inductive Kt where
  | code (c : Code)
  | blk (id : Nat)
  | again (c : Code)
def kPost (P : Program) (Q : Exit → Act → World → Prop) : List Kt → Exit → Act → World → Prop
  | [] => Q
  | .code c :: k => Exit.then (fun a w => c.wp P (kPost P Q k) a w) (kPost P Q k)
  | .blk id :: k => Exit.inBlock id (kPost P Q k)
  | .again c :: k => Exit.then (LoopFrom P c (kPost P Q k)) (kPost P Q k)
inductive Fin where
  | out (o : Out)
  | wait (k : List Kt)
def FPost (P : Program) (Q : Exit → Act → World → Prop) : Fin → Act → World → Prop
  | .out o => Post P Q o
  | .wait k => kPost P Q k .normal
abbrev SLeaf := Fin × St
/-- From the stack k and the state σ to what x says. -/
def SegD (P : Program) (N : Nat) (σ : St) (k : List Kt) (o : Out) (x : SLeaf) : Prop :=
  ∀ (C : Ctx) (e : Env) (a : Act) (w : World) (Q : Exit → Act → World → Prop), Rel C N e (look σ) a w → (∀ e' a' w', Rel C N e' (look x.2) a' w' → FPost P Q x.1 a' w') → Post P (fun o => kPost P Q k o) o a w
theorem SegD.trans {N : Nat} {σ σ' : St} {k k' : List Kt} {o : Out} {x : SLeaf} (h : SegD P N σ k o (.wait k', σ')) (h2 : SegD P N σ' k' .normal x) : SegD P N σ k o x :=
  fun C e a w Q hR hQ => h C e a w Q hR fun e' a' w' hR' => h2 C e' a' w' Q hR' hQ

def hasStop (stops : List Nat) : Nat → Code → Bool
  | 0, _ => true
  | n + 1, c => match c with
    | .seq a b => hasStop stops n a || hasStop stops n b
    | .cond _ a b => hasStop stops n a || hasStop stops n b
    | .block id b => memb stops id || hasStop stops n b
    | .loop b => hasStop stops n b
    | _ => false
def evS (tb : Tb) (wf : List FuncId) (call : CallF) (N cf : Nat) (stops : List Nat) : Nat → List Kt → Out → St → Tree SLeaf
  | 0, _, _, _ => .fail
  | n + 1, k, o, σ => match o with
    | .stop _ => .fail
    | .normal => match k with
      | [] => .leaf (.out .normal, σ)
      | .blk _ :: k => evS tb wf call N cf stops n k .normal σ
      | .again c :: k => evS tb wf call N cf stops n (.code c :: .again c :: k) .normal σ
      | .code c :: k => match hasStop stops cf c with
        | false => (evC tb wf call N [] cf c σ).bind fun x => evS tb wf call N cf stops n k x.1 x.2
        | true => match c with
          | .seq a b => evS tb wf call N cf stops n (.code a :: .code b :: k) .normal σ
          | .block id b => match memb stops id with
            | true => .leaf (.wait (.code (.block id b) :: k), σ)
            | false => evS tb wf call N cf stops n (.code b :: .blk id :: k) .normal σ
          | .loop b => evS tb wf call N cf stops n (.code b :: .again b :: k) .normal σ
          | .cond c a b => match evO σ c with
            | some (.one (.b v true)) => match v with
              | true => evS tb wf call N cf stops n (.code a :: k) .normal σ
              | false => evS tb wf call N cf stops n (.code b :: k) .normal σ
            | some (.one (.b v false)) => .br v (evS tb wf call N cf stops n (.code a :: k) .normal σ) (evS tb wf call N cf stops n (.code b :: k) .normal σ)
            | _ => .fail
          | _ => .fail
    | .exit i => match k with
      | [] => .leaf (.out (.exit i), σ)
      | .blk id :: k => match Nat.beq i id with
        | true => evS tb wf call N cf stops n k .normal σ
        | false => evS tb wf call N cf stops n k (.exit i) σ
      | .again _ :: k => evS tb wf call N cf stops n k (.exit i) σ
      | .code _ :: k => evS tb wf call N cf stops n k (.exit i) σ
    | .ret => match k with
      | [] => .leaf (.out .ret, σ)
      | _ :: k => evS tb wf call N cf stops n k .ret σ
theorem evS_ok {wf : List FuncId} {call : CallF} {N cf : Nat} {stops : List Nat} (hT : TbOk P tb) (hm : P.follows .mixedOrders = true) (hc : CallFOk P call) : ∀ (n : Nat) (k : List Kt) (o : Out) (σ : St) (y : SLeaf), (evS tb wf call N cf stops n k o σ).At y → SegD P N σ k o y
  | 0, _, _, _, _, h => h.elim
  | n + 1, k, o, σ, y, h => by
    have ih := evS_ok (wf := wf) (N := N) (cf := cf) (stops := stops) hT hm hc n
    cases o with
    | stop l => exact h.elim
    | normal =>
      cases k with
      | nil => obtain rfl : _ = y := h; exact fun C e a w Q hR hQ => hQ e a w hR
      | cons x k =>
        cases x with
        | blk id => exact fun C e a w Q hR hQ => ih k .normal σ y h C e a w Q hR hQ
        | again c => exact fun C e a w Q hR hQ => LoopFrom.once (ih (.code c :: .again c :: k) .normal σ y h C e a w Q hR hQ)
        | code c =>
          simp only [evS] at h
          split at h
          · obtain ⟨z, h1, h2⟩ := Tree.At_bind.1 h
            intro C e a w Q hR hQ
            show c.wp P (kPost P Q k) a w
            exact evC_ok hT hm hc cf c σ z h1 C e a w _ hR fun e' a' w' hR' => ih k z.1 z.2 y h2 C e' a' w' Q hR' hQ
          · split at h
            · rename_i a b _
              exact fun C e a' w Q hR hQ => wp_seq (ih (.code a :: .code b :: k) .normal σ y h C e a' w Q hR hQ)
            · rename_i id b _
              split at h
              · obtain rfl : _ = y := h
                exact fun C e a w Q hR hQ => hQ e a w hR
              · exact fun C e a w Q hR hQ => wp_block (ih (.code b :: .blk id :: k) .normal σ y h C e a w Q hR hQ)
            · rename_i b _
              exact fun C e a w Q hR hQ => LoopFrom.wp (LoopFrom.once (ih (.code b :: .again b :: k) .normal σ y h C e a w Q hR hQ))
            · rename_i c a b _
              have hev : ∀ {v l : Bool}, evO σ c = some (.one (.b v l)) → ∀ (C : Ctx) (e : Env) (a : Act) (w : World), Rel C N e (look σ) a w → a.eval c = .bool v := fun hv C e a w hR => (sees_of hR (x := c) (fun _ _ => rfl) _ hv).1
              split at h
              · rename_i v hv
                split at h
                · exact fun C e a' w Q hR hQ => wp_cond (hev hv C e a' w hR) (ih (.code a :: k) .normal σ y h C e a' w Q hR hQ)
                · exact fun C e a' w Q hR hQ => wp_cond (hev hv C e a' w hR) (ih (.code b :: k) .normal σ y h C e a' w Q hR hQ)
              · rename_i v hv
                rcases h with ⟨hb, h⟩ | ⟨hb, h⟩
                · intro C e a' w Q hR hQ
                  refine wp_cond (hev hv C e a' w hR) ?_
                  rw [hb]
                  exact ih (.code a :: k) .normal σ y h C e a' w Q hR hQ
                · intro C e a' w Q hR hQ
                  refine wp_cond (hev hv C e a' w hR) ?_
                  rw [hb]
                  exact ih (.code b :: k) .normal σ y h C e a' w Q hR hQ
              · exact h.elim
            · exact h.elim
    | exit i =>
      cases k with
      | nil => obtain rfl : _ = y := h; exact fun C e a w Q hR hQ => hQ e a w hR
      | cons x k =>
        cases x with
        | code c => exact fun C e a w Q hR hQ => ih k (.exit i) σ y h C e a w Q hR hQ
        | again c => exact fun C e a w Q hR hQ => ih k (.exit i) σ y h C e a w Q hR hQ
        | blk id =>
          simp only [evS] at h
          split at h
          · rename_i hb
            intro C e a w Q hR hQ
            show (if i = id then kPost P Q k .normal a w else kPost P Q k (.exit i) a w)
            rw [if_pos (beq_iff'.1 hb)]
            exact ih k .normal σ y h C e a w Q hR hQ
          · rename_i hb
            intro C e a w Q hR hQ
            show (if i = id then kPost P Q k .normal a w else kPost P Q k (.exit i) a w)
            rw [if_neg (beq_ff.1 hb)]
            exact ih k (.exit i) σ y h C e a w Q hR hQ
    | ret =>
      cases k with
      | nil => obtain rfl : _ = y := h; exact fun C e a w Q hR hQ => hQ e a w hR
      | cons x k =>
        cases x with
        | code c => exact fun C e a w Q hR hQ => ih k .ret σ y h C e a w Q hR hQ
        | again c => exact fun C e a w Q hR hQ => ih k .ret σ y h C e a w Q hR hQ
        | blk id => exact fun C e a w Q hR hQ => ih k .ret σ y h C e a w Q hR hQ
theorem evS_every {wf : List FuncId} {call : CallF} {N cf : Nat} {stops : List Nat} : ∀ {n : Nat} {k : List Kt} {o : Out} {σ : St}, (evS tb wf call N cf stops n k o σ).Every fun x => Ext σ x.2
  | 0, _, _, _ => trivial
  | n + 1, k, o, σ => by
    have ih : ∀ {k : List Kt} {o : Out} {σ : St}, (evS tb wf call N cf stops n k o σ).Every fun x => Ext σ x.2 := evS_every (n := n)
    cases o with
    | stop l => trivial
    | normal =>
      cases k with
      | nil => exact Ext.refl σ
      | cons x k =>
        cases x with
        | blk id => exact ih
        | again c => exact ih
        | code c =>
          simp only [evS]
          split
          · exact Tree.Every.bind (evC_every.mono fun x hx => ih.mono fun y hy => hx.trans hy)
          · split
            · exact ih
            · split
              · exact Ext.refl σ
              · exact ih
            · exact ih
            · split
              · split
                · exact ih
                · exact ih
              · exact ⟨ih, ih⟩
              · trivial
            · trivial
    | exit i =>
      cases k with
      | nil => exact Ext.refl σ
      | cons x k =>
        cases x with
        | code c => exact ih
        | again c => exact ih
        | blk id => simp only [evS]; split <;> exact ih
    | ret =>
      cases k with
      | nil => exact Ext.refl σ
      | cons x k => cases x <;> exact ih

/-- A function, from what its code comes to. -/
theorem seg_fun {f : FuncId} {fn : Func} {c : Code} (hT : TbOk P tb) (hf : P.funcs[f]? = some fn) (hb : fn.body = some c) {args : List Sv} {σ σ' : St} {vs : List Nat} {o : Out} {v : Sv} (hle : args.length ≤ fn.ntmps)
    (h : SegD P fn.ntmps (enterSt (withVr σ vs) args) [.code c] .normal (.out o, σ')) (ho : o = .normal ∨ o = .ret) (hx : Ext (enterSt (withVr σ vs) args) σ') (hv : evRes tb σ' fn.results.toList = some v) : FunOk P f args σ v σ' := by
  have hkeep := ext_keep hx
  refine ⟨fun C e w hp ha => ?_, fun id off hk hu => hkeep id off hk hu⟩
  let C' : Ctx := { M := C.M, w0 := C.w0, pin := fun id => if (look σ (.k id)).isSome = true then some (e.pl id) else none, pinn := fun c => if (look σ (.n c)).isSome = true then some (e.nm c) else none }
  have hp' : Hp C' e (look σ) w := ⟨hp.new, hp.cl, hp.ar, hp.oq, hp.cp, hp.inj, hp.lt, hp.mu, ⟨(fun id p hh => by
    simp only [C'] at hh
    split at hh
    · rename_i hk; exact ⟨Option.some.inj hh, hk⟩
    · cases hh), (fun c m hh => by
    simp only [C'] at hh
    split at hh
    · rename_i hk; exact ⟨Option.some.inj hh, hk⟩
    · cases hh)⟩, hp.fr⟩
  have hR := enter_rel (σ := withVr σ vs) (by rw [look_withVr]; exact hp') (by rw [look_withVr]; exact ha) hle
  refine calls_of_wp hf hb ?_
  refine h C' e _ w (bodyPost P fn _) hR fun e' a' w' hR' => ?_
  obtain ⟨r1, r2⟩ := evRes_run hT hR' hv
  have hA : Agree (look σ) e e' := by
    refine ⟨fun id hid => (hR'.hp.pin.1 id (e.pl id) ?_).1, fun c hc => (hR'.hp.pin.2 c (e.nm c) ?_).1⟩
    · exact if_pos hid
    · exact if_pos hc
  have hfin : Hp C e' (look σ') w' := by
    have q := hR'.hp
    refine ⟨q.new, q.cl, q.ar, q.oq, q.cp, q.inj, q.lt, q.mu, ⟨fun id p hh => ?_, fun c m hh => ?_⟩, q.fr⟩
    · obtain ⟨p1, p2⟩ := hp.pin.1 id p hh
      have := q.pin.1 id (e.pl id) (if_pos p2)
      exact ⟨this.1.trans p1, this.2⟩
    · obtain ⟨p1, p2⟩ := hp.pin.2 c m hh
      have := q.pin.2 c (e.nm c) (if_pos p2)
      exact ⟨this.1.trans p1, this.2⟩
  have hend : ∃ v', (results fn a'.tmps).run P w' = .ok v' w' ∧ ∃ e'', Agree (look σ) e e'' ∧ Hp C e'' (look σ') w' ∧ Ending.returned v' = .returned (v.den e'') ∧ v.sc (look σ') :=
    ⟨_, r1, e', hA, hfin, rfl, r2⟩
  rcases ho with ho | ho
  · rw [ho]
    exact ⟨hR'.df, hend⟩
  · rw [ho]
    exact ⟨hR'.df, hend⟩
end
end Sx
end Go.Proofs.Ytladkknbkgomfaa

/-
  Families of states for loops: places that change from round to round, rows that grow.
-/
set_option linter.unusedSimpArgs false
set_option linter.unusedVariables false
namespace Go.Proofs.Ytladkknbkgomfaa
namespace Sx
open Go.RowKit

section
variable {P : Program} {tb : Tb}

/-- What the changing places hold: truth values, numbers; rows: how many elements, how many cells, what they hold. -/
structure FVal where
  b : Nat → Bool
  i : Nat → Int
  n : Nat → Nat
  m : Nat → Nat
  f : Nat → Nat → Value
inductive FamP where
  | t (n : Nat) (l : Lf)
  | c (id off : Nat) (l : Lf)
  | row (t el size id c : Nat)
def FamP.ws (v : FVal) (j : Nat) : FamP → List Wr
  | .t n l => [.tm n (.one (l.cv v.b v.i j))]
  | .c id off l => [.cell id off (l.cv v.b v.i j)]
  | .row sl el size id cn => [.nm cn, .new id (.oq el false (v.m j) (v.f j) (some (cn, size))), .tm sl (.one (.slc id (.lit 0) (.opq (v.n j)) (.nam cn)))]
def famW (v : FVal) : Nat → List FamP → List Wr
  | _, [] => []
  | j, p :: d => p.ws v j ++ famW v (j + 1) d
/-- What an itm says of a place. -/
def FamP.at_ (v : FVal) (j : Nat) : FamP → Loc → Option (Option LV)
  | .t n l, .t n' => if n' = n then some (some (.sv (.one (l.cv v.b v.i j)))) else none
  | .c id off l, .c i o => if i = id ∧ o = off then some (some (.cv (l.cv v.b v.i j))) else none
  | .row sl _ _ id cn, .t n' => if n' = sl then some (some (.sv (.one (.slc id (.lit 0) (.opq (v.n j)) (.nam cn))))) else none
  | .row _ el size id cn, .k i => if i = id then some (some (.bk (.oq el false (v.m j) (v.f j) (some (cn, size))))) else none
  | .row _ _ _ id _, .c i _ => if i = id then some none else none
  | .row _ _ _ _ cn, .n c' => if c' = cn then some (some .nm) else none
  | _, _ => none
theorem FamP.fns_ws (v : FVal) (j : Nat) (p : FamP) (l : Loc) : fns (p.ws v j) l = p.at_ v j l := by
  cases p with
  | t n lf => cases l <;> simp [FamP.ws, fns, Wr.fn, FamP.at_]
  | c id off lf => cases l <;> simp [FamP.ws, fns, Wr.fn, FamP.at_]
  | row t el size id c =>
    cases l with
    | t n' =>
      simp only [FamP.ws, fns, Wr.fn, FamP.at_]
      by_cases e : n' = t
      · simp [e]
      · simp [e]
    | c i o =>
      simp only [FamP.ws, fns, Wr.fn, FamP.at_]
      by_cases e : i = id
      · simp [e, Blk.cell]
      · simp [e]
    | k i => 
      simp only [FamP.ws, fns, Wr.fn, FamP.at_]
      by_cases e : i = id
      · simp [e, Blk.info]
      · simp [e]
    | n c' =>
      simp only [FamP.ws, fns, Wr.fn, FamP.at_]
theorem fns_append (xs ys : List Wr) (l : Loc) : fns (xs ++ ys) l = match fns ys l with
    | some z => some z
    | none => fns xs l := by
  induction xs with
  | nil => simp only [List.nil_append, fns]; cases fns ys l <;> rfl
  | cons x xs ih =>
    simp only [List.cons_append, fns, ih]
    cases fns ys l <;> rfl
theorem fns_fam (v : FVal) (l : Loc) : ∀ (d : List FamP) (j : Nat), (fns (famW v j d) l = none ∧ ∀ p ∈ d, ∀ v' j', p.at_ v' j' l = none) ∨ ∃ (i : Nat) (p : FamP), d[i]? = some p ∧ fns (famW v j d) l = p.at_ v (j + i) l ∧ (p.at_ v (j + i) l).isSome = true
  | [], j => Or.inl ⟨rfl, fun p hp => by cases hp⟩
  | p :: d, j => by
    rcases fns_fam v l d (j + 1) with ⟨h1, h2⟩ | ⟨i, q, h1, h2, h3⟩
    · cases hp : p.at_ v j l with
      | none =>
        refine Or.inl ⟨?_, fun q hq => ?_⟩
        · rw [famW, fns_append, h1, FamP.fns_ws, hp]
        · rcases List.mem_cons.1 hq with rfl | hq
          · intro v' j'
            cases q <;> cases l <;> simp only [FamP.at_] at hp ⊢ <;> split at hp <;> simp_all
          · exact h2 q hq
      | some z =>
        refine Or.inr ⟨0, p, rfl, ?_, by rw [Nat.add_zero, hp]; rfl⟩
        rw [famW, fns_append, h1, FamP.fns_ws, Nat.add_zero]
    · refine Or.inr ⟨i + 1, q, by simpa using h1, ?_, by rw [show j + (i + 1) = j + 1 + i by omega]; exact h3⟩
      rw [show j + (i + 1) = j + 1 + i by omega]
      obtain ⟨z, hz⟩ := Option.isSome_iff_exists.1 h3
      rw [famW, fns_append, h2, hz]
/-- A place of the family. -/
def inF (d : List FamP) (l : Loc) : Prop := ∃ p ∈ d, ∃ v j, (p.at_ v j l).isSome = true
theorem fam_out {v : FVal} {d : List FamP} {s : Sto} {l : Loc} (h : ¬ inF d l) : upds s (famW v 0 d) l = s l := by
  rw [upds_fns]
  rcases fns_fam v l d 0 with ⟨h1, _⟩ | ⟨i, p, h1, h2, h3⟩
  · dsimp only; rw [h1]; rfl
  · exact absurd ⟨p, List.mem_of_getElem? h1, v, _, h3⟩ h
theorem fam_in {v : FVal} {d : List FamP} {s : Sto} {l : Loc} (h : inF d l) : ∃ (i : Nat) (p : FamP) (z : Option LV), d[i]? = some p ∧ p.at_ v i l = some z ∧ upds s (famW v 0 d) l = z := by
  rw [upds_fns]
  rcases fns_fam v l d 0 with ⟨_, h2⟩ | ⟨i, p, h1, h2, h3⟩
  · obtain ⟨p, hp, v', j', h⟩ := h
    rw [h2 p hp v' j'] at h; cases h
  · rw [Nat.zero_add] at h2 h3
    obtain ⟨z, hz⟩ := Option.isSome_iff_exists.1 h3
    exact ⟨i, p, z, h1, hz, by dsimp only; rw [h2, hz]; rfl⟩

/-! What a state says of the family's places. -/
structure RowV where
  id : Nat
  c : Nat
  n : Nat
  m : Nat
  f : Nat → Value
def rowRd (el size : Nat) (y : St) (t : Nat) : Option RowV := match alook y.tm t with
  | some (.one (.slc id (.lit 0) (.opq n) (.nam c))) => match alook y.bk id with
    | some (.oq el' false m f (some (c', size'))) => match Nat.beq el el' && (Nat.beq c c' && Nat.beq size size') with
      | true => some ⟨id, c, n, m, f⟩
      | false => none
    | _ => none
  | some (.one (.slc id (.lit 0) (.lit n) (.nam c))) => match alook y.bk id with
    | some (.ar el' false cs (some (c', size'))) => match Nat.beq el el' && (Nat.beq c c' && (Nat.beq size size' && cs.all Cv.freeB)) with
      | true => some ⟨id, c, n, cs.length, fun o => ((cs[o]?).map (·.den env0)).getD undef⟩
      | false => none
    | _ => none
  | _ => none
def scRd (y : St) : FamP → Option Cv
  | .t n _ => match alook y.tm n with
    | some (.one z) => some z
    | _ => none
  | .c id off _ => (alook y.bk id).bind fun b => b.cell off
  | .row _ _ _ _ _ => none
def rwOf (y : St) : FamP → Option RowV
  | .row t el size _ _ => rowRd el size y t
  | _ => none
def rvB (d : List FamP) (y : St) (j : Nat) : Bool := (((d[j]?).bind (scRd y)).map cvB).getD false
def rvI (d : List FamP) (y : St) (j : Nat) : Int := (((d[j]?).bind (scRd y)).map cvI).getD 0
def rvR (d : List FamP) (y : St) (j : Nat) : Option RowV := (d[j]?).bind (rwOf y)
def cutF (m : Nat) (f : Nat → Value) (o : Nat) : Value := bif Nat.blt o m then f o else undef
def rvV (d : List FamP) (y : St) : FVal where
  b := rvB d y
  i := rvI d y
  n := fun j => ((rvR d y j).map (·.n)).getD 0
  m := fun j => ((rvR d y j).map (·.m)).getD 0
  f := fun j => ((rvR d y j).map fun r => cutF r.m r.f).getD fun _ => undef
/-- The blocks and the capacities' names of the rows: in the family, in the state. -/
def rIds : List FamP → List Nat
  | [] => []
  | .row _ _ _ id _ :: d => id :: rIds d
  | _ :: d => rIds d
def rCs : List FamP → List Nat
  | [] => []
  | .row _ _ _ _ c :: d => c :: rCs d
  | _ :: d => rCs d
def yIds (y : St) : List FamP → List Nat
  | [] => []
  | .row t el size _ _ :: d => ((rowRd el size y t).map (·.id)).getD 0 :: yIds y d
  | _ :: d => yIds y d
def renI (y : St) : List FamP → Nat → Nat
  | [], i => i
  | .row t el size id _ :: d, i => match Nat.beq id i with
    | true => ((rowRd el size y t).map (·.id)).getD 0
    | false => renI y d i
  | _ :: d, i => renI y d i
def renC (y : St) : List FamP → Nat → Nat
  | [], i => i
  | .row t el size _ c :: d, i => match Nat.beq c i with
    | true => ((rowRd el size y t).map (·.c)).getD 0
    | false => renC y d i
  | _ :: d, i => renC y d i
def renE (y : St) (d : List FamP) (e : Env) : Env := ⟨fun i => e.pl (renI y d i), fun c => e.nm (renC y d c)⟩
def distinct : List Nat → Bool
  | [] => true
  | x :: l => !memb l x && distinct l
def okFamP (σ y : St) : FamP → Bool
  | .t n l => match scRd y (.t n l) with
    | some z => l.fits z
    | none => false
  | .c id off l => (match scRd y (.c id off l) with
    | some z => l.fits z
    | none => false) && match alook σ.bk id with
    | some (.ar _ _ cs _) => Nat.blt off cs.length
    | _ => false
  | .row t el size id c => (rowRd el size y t).isSome && ((alook σ.bk id).isNone && !memb σ.nl c)
def okF (d : List FamP) (σ y : St) : Bool := d.all (okFamP σ y) && (distinct (rIds d) && (distinct (rCs d) && (distinct (yIds y d) && (yIds y d).all fun i => (alook σ.bk i).isNone)))

theorem renI_out {y : St} {i : Nat} : ∀ {d : List FamP}, i ∉ rIds d → renI y d i = i
  | [], _ => rfl
  | .t _ _ :: d, h => renI_out (d := d) h
  | .c _ _ _ :: d, h => renI_out (d := d) h
  | .row t el size id c :: d, h => by
    simp only [rIds, List.mem_cons, not_or] at h
    simp only [renI, beq_ff.2 (Ne.symm h.1)]
    exact renI_out h.2
theorem renC_out {y : St} {i : Nat} : ∀ {d : List FamP}, i ∉ rCs d → renC y d i = i
  | [], _ => rfl
  | .t _ _ :: d, h => renC_out (d := d) h
  | .c _ _ _ :: d, h => renC_out (d := d) h
  | .row t el size id c :: d, h => by
    simp only [rCs, List.mem_cons, not_or] at h
    simp only [renC, beq_ff.2 (Ne.symm h.1)]
    exact renC_out h.2
theorem mem_rIds {t el size id c : Nat} : ∀ {d : List FamP}, FamP.row t el size id c ∈ d → id ∈ rIds d ∧ c ∈ rCs d
  | [], h => by cases h
  | p :: d, h => by
    rcases List.mem_cons.1 h with rfl | h
    · exact ⟨List.mem_cons_self, List.mem_cons_self⟩
    · obtain ⟨h1, h2⟩ := mem_rIds h
      cases p with
      | row => exact ⟨List.mem_cons_of_mem _ h1, List.mem_cons_of_mem _ h2⟩
      | _ => exact ⟨h1, h2⟩
theorem renI_row {y : St} {t el size id c : Nat} : ∀ {d : List FamP}, distinct (rIds d) = true → FamP.row t el size id c ∈ d → renI y d id = ((rowRd el size y t).map (·.id)).getD 0
  | [], _, h => by cases h
  | .t _ _ :: d, hd, h => by
    rcases List.mem_cons.1 h with h | h
    · cases h
    · exact renI_row (d := d) hd h
  | .c _ _ _ :: d, hd, h => by
    rcases List.mem_cons.1 h with h | h
    · cases h
    · exact renI_row (d := d) hd h
  | .row t' el' size' id' c' :: d, hd, h => by
    simp only [rIds, distinct, Bool.and_eq_true, Bool.not_eq_true'] at hd
    rcases List.mem_cons.1 h with h | h
    · cases h
      simp only [renI, Nat.beq_refl]
    · have hne : id' ≠ id := by
        intro e
        have := memb_iff.2 (mem_rIds h).1
        rw [← e, hd.1] at this; cases this
      simp only [renI, beq_ff.2 hne]
      exact renI_row hd.2 h
theorem renC_row {y : St} {t el size id c : Nat} : ∀ {d : List FamP}, distinct (rCs d) = true → FamP.row t el size id c ∈ d → renC y d c = ((rowRd el size y t).map (·.c)).getD 0
  | [], _, h => by cases h
  | .t _ _ :: d, hd, h => by
    rcases List.mem_cons.1 h with h | h
    · cases h
    · exact renC_row (d := d) hd h
  | .c _ _ _ :: d, hd, h => by
    rcases List.mem_cons.1 h with h | h
    · cases h
    · exact renC_row (d := d) hd h
  | .row t' el' size' id' c' :: d, hd, h => by
    simp only [rCs, distinct, Bool.and_eq_true, Bool.not_eq_true'] at hd
    rcases List.mem_cons.1 h with h | h
    · cases h
      simp only [renC, Nat.beq_refl]
    · have hne : c' ≠ c := by
        intro e
        have := memb_iff.2 (mem_rIds h).2
        rw [← e, hd.1] at this; cases this
      simp only [renC, beq_ff.2 hne]
      exact renC_row hd.2 h
theorem mem_yIds {y : St} {t el size id c : Nat} : ∀ {d : List FamP}, FamP.row t el size id c ∈ d → ((rowRd el size y t).map (·.id)).getD 0 ∈ yIds y d
  | [], h => by cases h
  | p :: d, h => by
    rcases List.mem_cons.1 h with rfl | h2
    · exact List.mem_cons_self
    · cases p with
      | row => exact List.mem_cons_of_mem _ (mem_yIds h2)
      | _ => exact mem_yIds (d := d) h2
theorem rId_row {i : Nat} : ∀ {d : List FamP}, i ∈ rIds d → ∃ t el size c, FamP.row t el size i c ∈ d
  | [], h => by cases h
  | .t _ _ :: d, h => by obtain ⟨t, el, s, c, h⟩ := rId_row (d := d) h; exact ⟨t, el, s, c, List.mem_cons_of_mem _ h⟩
  | .c _ _ _ :: d, h => by obtain ⟨t, el, s, c, h⟩ := rId_row (d := d) h; exact ⟨t, el, s, c, List.mem_cons_of_mem _ h⟩
  | .row t el size id c :: d, h => by
    rcases List.mem_cons.1 (show i ∈ id :: rIds d from h) with rfl | h
    · exact ⟨t, el, size, c, List.mem_cons_self⟩
    · obtain ⟨t, el, s, c, h⟩ := rId_row h; exact ⟨t, el, s, c, List.mem_cons_of_mem _ h⟩
/-- Two rows of the family never stand for one block. -/
theorem renI_inj {y : St} {i i' : Nat} : ∀ {d : List FamP}, distinct (yIds y d) = true → i ∈ rIds d → i' ∈ rIds d → distinct (rIds d) = true → renI y d i = renI y d i' → i = i'
  | [], _, h, _, _, _ => by cases h
  | .t _ _ :: d, hy, h, h', hd, he => renI_inj (d := d) hy h h' hd he
  | .c _ _ _ :: d, hy, h, h', hd, he => renI_inj (d := d) hy h h' hd he
  | .row t el size id c :: d, hy, h, h', hd, he => by
    have hd0 := hd
    simp only [rIds, distinct, Bool.and_eq_true, Bool.not_eq_true'] at hd
    simp only [yIds, distinct, Bool.and_eq_true, Bool.not_eq_true'] at hy
    have other : ∀ {k : Nat}, k ∈ rIds d → k ≠ id → renI y (.row t el size id c :: d) k = renI y d k ∧ renI y d k ∈ yIds y d := by
      intro k hk hne
      refine ⟨by simp only [renI, beq_ff.2 (Ne.symm hne)], ?_⟩
      obtain ⟨t', el', s', c', hm⟩ := rId_row hk
      rw [renI_row hd.2 hm]
      exact mem_yIds hm
    have self : renI y (.row t el size id c :: d) id = ((rowRd el size y t).map (·.id)).getD 0 := by simp only [renI, Nat.beq_refl]
    have hne : ∀ {k : Nat}, k ∈ rIds d → k ≠ id := by
      intro k hk e
      have := memb_iff.2 hk
      rw [e, hd.1] at this; cases this
    rcases List.mem_cons.1 (show i ∈ id :: rIds d from h) with rfl | g
    · rcases List.mem_cons.1 (show i' ∈ i :: rIds d from h') with rfl | h'
      · rfl
      · exfalso
        obtain ⟨o1, o2⟩ := other h' (hne h')
        rw [self, o1] at he
        have := memb_iff.2 o2
        rw [← he, hy.1] at this; cases this
    · rcases List.mem_cons.1 (show i' ∈ id :: rIds d from h') with rfl | g'
      · exfalso
        obtain ⟨o1, o2⟩ := other g (hne g)
        rw [self, o1] at he
        have := memb_iff.2 o2
        rw [he, hy.1] at this; cases this
      · rw [(other g (hne g)).1, (other g' (hne g')).1] at he
        exact renI_inj hy.2 g g' hd.2 he

/-- What a row that is read is. -/
theorem rowRd_at {el size t : Nat} {y : St} {r : RowV} (h : rowRd el size y t = some r) : ∃ v, look y (.t t) = some (.sv v) ∧ (∀ e, v.den e = .slice (some (e.ad r.id 0)) r.n (e.nm r.c)) ∧
    ∃ b, look y (.k r.id) = some (.bk b) ∧ b.rw = true ∧ b.live = true ∧ b.t = el ∧ b.n = r.m ∧ b.cp = some (r.c, size) ∧
      ((∃ f, b = .oq el false r.m f (some (r.c, size)) ∧ r.f = f) ∨ (∃ cs : List Cv, b = .ar el false cs.length (some (r.c, size)) ∧ (∀ o c, cs[o]? = some c → look y (.c r.id o) = some (.cv c) ∧ c.freeB = true) ∧ cs.length = r.m ∧ r.f = fun o => ((cs[o]?).map (·.den env0)).getD undef)) := by
  unfold rowRd at h
  split at h
  · rename_i id n c ht
    split at h
    · rename_i el' m f c' size' hb
      split at h
      · rename_i hc
        simp only [Bool.and_eq_true, beq_iff'] at hc
        obtain ⟨rfl, rfl, rfl⟩ := hc
        obtain rfl := Option.some.inj h
        refine ⟨_, by simp only [look, ht]; rfl, fun e => rfl, .oq el false m f (some (c, size)), by simp only [look, hb]; rfl, rfl, rfl, rfl, rfl, rfl, Or.inl ⟨f, rfl, rfl⟩⟩
      · cases h
    · cases h
  · rename_i id n c ht
    split at h
    · rename_i el' cs c' size' hb
      split at h
      · rename_i hc
        simp only [Bool.and_eq_true, beq_iff'] at hc
        obtain ⟨rfl, rfl, rfl, hfree⟩ := hc
        obtain rfl := Option.some.inj h
        refine ⟨_, by simp only [look, ht]; rfl, fun e => rfl, .ar el false cs.length (some (c, size)), by simp only [look, hb]; rfl, rfl, rfl, rfl, rfl, rfl, Or.inr ⟨cs, rfl, fun o c' hc' => ⟨?_, List.all_eq_true.1 hfree _ (List.mem_of_getElem? hc')⟩, rfl, rfl⟩⟩
        simp only [look, hb, Option.bind_some, Blk.cell, hc', Option.map_some]
      · cases h
    · cases h
  · cases h

/-- What is known of the base is known of the state, but for the family's places. -/
def KeepsF (d : List FamP) (σ y : St) : Prop := ∀ l v, look σ l = some v → ¬ inF d l → v ≠ .bk .gone → look y l = some v
theorem inF_k {d : List FamP} {i : Nat} : inF d (.k i) ↔ i ∈ rIds d := by
  constructor
  · rintro ⟨p, hp, v, j, h⟩
    cases p with
    | t n l => cases h
    | c id off l => cases h
    | row t el size id c =>
      simp only [FamP.at_] at h
      split at h
      · rename_i e; subst e; exact (mem_rIds hp).1
      · cases h
  · intro h
    obtain ⟨t, el, size, c, hm⟩ := rId_row h
    exact ⟨_, hm, ⟨fun _ => false, fun _ => 0, fun _ => 0, fun _ => 0, fun _ _ => undef⟩, 0, by simp [FamP.at_]⟩
theorem inF_n {d : List FamP} {i : Nat} (h : inF d (.n i)) : i ∈ rCs d := by
  obtain ⟨p, hp, v, j, h⟩ := h
  cases p with
  | t n l => cases h
  | c id off l => cases h
  | row t el size id c =>
    simp only [FamP.at_] at h
    split at h
    · rename_i e; subst e; exact (mem_rIds hp).2
    · cases h
set_option maxHeartbeats 1000000 in
theorem fam_rel {C : Ctx} {N : Nat} {e : Env} {a : Act} {w : World} {d : List FamP} {σ y : St} (hws : WS (look σ)) (hkeep : KeepsF d σ y) (ok : okF d σ y = true) (hpin : (∀ id p, C.pin id = some p → kn (look σ) id) ∧ ∀ c m, C.pinn c = some m → knn (look σ) c)
    (hR : Rel C N e (look y) a w) : Rel C N (renE y d e) (upds (look σ) (famW (rvV d y) 0 d)) a w := by
  generalize hT : upds (look σ) (famW (rvV d y) 0 d) = T
  unfold okF at ok
  simp only [Bool.and_eq_true] at ok
  obtain ⟨o1, o2, o3, o4, o5⟩ := ok
  have itm : ∀ {i p}, d[i]? = some p → okFamP σ y p = true := fun h => List.all_eq_true.1 o1 _ (List.mem_of_getElem? h)
  have rowI : ∀ {t el size id c}, FamP.row t el size id c ∈ d → (∃ r, rowRd el size y t = some r ∧ renI y d id = r.id ∧ renC y d c = r.c ∧ alook σ.bk r.id = none) ∧ alook σ.bk id = none ∧ memb σ.nl c = false := by
    intro t el size id c hm
    have h := List.all_eq_true.1 o1 _ hm
    simp only [okFamP, Bool.and_eq_true, Bool.not_eq_true'] at h
    obtain ⟨h1, h2, h3⟩ := h
    obtain ⟨r, hr⟩ := Option.isSome_iff_exists.1 h1
    refine ⟨⟨r, hr, by rw [renI_row o2 hm, hr]; rfl, by rw [renC_row o3 hm, hr]; rfl, ?_⟩, by simpa using h2, h3⟩
    have := List.all_eq_true.1 o5 _ (mem_yIds (y := y) hm)
    rw [hr] at this
    simpa using this
  -- names of the base are not the family's
  have kI : ∀ {i}, kn (look σ) i → i ∉ rIds d := by
    intro i hk hm
    obtain ⟨t, el, s, c, h⟩ := rId_row hm
    have := (rowI h).2.1
    rw [kn_look, this] at hk; cases hk
  have kC : ∀ {c}, knn (look σ) c → c ∉ rCs d := by
    intro c hk hm
    have : ∀ {d' : List FamP}, c ∈ rCs d' → ∃ t el size id, FamP.row t el size id c ∈ d' := by
      intro d'
      induction d' with
      | nil => intro h; cases h
      | cons p d' ih =>
        intro h
        cases p with
        | t n l => obtain ⟨t, el, s, i, h⟩ := ih h; exact ⟨t, el, s, i, List.mem_cons_of_mem _ h⟩
        | c id off l => obtain ⟨t, el, s, i, h⟩ := ih h; exact ⟨t, el, s, i, List.mem_cons_of_mem _ h⟩
        | row t el size id c' =>
          rcases List.mem_cons.1 (show c ∈ c' :: rCs d' from h) with rfl | h
          · exact ⟨t, el, size, id, List.mem_cons_self⟩
          · obtain ⟨t, el, s, i, h⟩ := ih h; exact ⟨t, el, s, i, List.mem_cons_of_mem _ h⟩
    obtain ⟨t, el, s, i, h⟩ := this hm
    have := (rowI h).2.2
    unfold knn at hk
    simp only [look, this] at hk
    cases hk
  have hA : Agree (look σ) e (renE y d e) := ⟨fun i hk => by show e.pl (renI y d i) = _; rw [renI_out (kI hk)], fun c hk => by show e.nm (renC y d c) = _; rw [renC_out (kC hk)]⟩
  have Tk : ∀ {i}, kn (look σ) i → T (.k i) = look σ (.k i) := fun hk => by rw [← hT]; exact fam_out fun h => kI hk (inF_k.1 h)
  have hS : Sub (look σ) T := by
    refine ⟨fun i hk => by unfold kn; rw [Tk hk]; exact hk, fun c hk => ?_⟩
    unfold knn
    rw [← hT, fam_out fun h => kC hk (inF_n h)]; exact hk
  have adk : ∀ {i off}, kn (look σ) i → (renE y d e).ad i off = e.ad i off := fun hk => hA.ad hk
  -- the blocks of the family's states
  have blkT : ∀ {i b}, T (.k i) = some (.bk b) → b.live = true → (look σ (.k i) = some (.bk b) ∧ look y (.k i) = some (.bk b) ∧ renI y d i = i ∧ kn (look σ) i) ∨
      ∃ (j t el size c : Nat) (r : RowV), d[j]? = some (FamP.row t el size i c) ∧ rowRd el size y t = some r ∧ b = .oq el false r.m (cutF r.m r.f) (some (c, size)) ∧ renI y d i = r.id ∧ renC y d c = r.c ∧ alook σ.bk r.id = none := by
    intro i b hb hl
    by_cases h : inF d (.k i)
    · obtain ⟨j, p, z, h1, h2, h3⟩ := fam_in (v := rvV d y) (s := look σ) h
      rw [hT] at h3
      cases p with
      | t n l => cases h2
      | c id off l => cases h2
      | row t el size id c =>
        simp only [FamP.at_] at h2
        split at h2
        · rename_i e1
          subst e1
          obtain rfl := Option.some.inj h2
          rw [h3] at hb
          obtain ⟨⟨r, hr, q1, q2, q3⟩, _⟩ := rowI (List.mem_of_getElem? h1)
          refine Or.inr ⟨j, t, el, size, c, r, h1, hr, ?_, q1, q2, q3⟩
          have hrow : rvR d y j = some r := by simp only [rvR, h1, Option.bind_some, rwOf, hr]
          have hm : (rvV d y).m j = r.m := by simp only [rvV, hrow, Option.map_some, Option.getD_some]
          have hf : (rvV d y).f j = cutF r.m r.f := by simp only [rvV, hrow, Option.map_some, Option.getD_some]
          rw [hm, hf] at hb
          simpa using hb.symm
        · cases h2
    · have h3 : T (.k i) = look σ (.k i) := by rw [← hT]; exact fam_out h
      rw [h3] at hb
      refine Or.inl ⟨hb, hkeep _ _ hb h (fun e1 => by cases e1; cases hl), renI_out fun hm => h (inF_k.2 hm), ?_⟩
      unfold kn; rw [hb]; rfl
  -- each stands for one of the state's
  have blkY : ∀ {i b}, T (.k i) = some (.bk b) → b.live = true → ∃ b1, look y (.k (renI y d i)) = some (.bk b1) ∧ b1.rw = b.rw ∧ b1.live = true ∧ b1.t = b.t ∧ b1.n = b.n := by
    intro i b hb hl
    rcases blkT hb hl with ⟨_, h2, h3, _⟩ | ⟨j, t, el, size, c, r, _, hr, rfl, h3, _, _⟩
    · rw [h3]; exact ⟨b, h2, rfl, hl, rfl, rfl⟩
    · obtain ⟨_, _, _, b1, k1, k2, k3, k4, k5, _, _⟩ := rowRd_at hr
      rw [h3]
      exact ⟨b1, k1, k2, k3, k4, k5⟩
  have rl : ∀ b : BI, b.rw = true → b.live = true := fun b hb => by cases b <;> first | rfl | cases hb
  have rrd : ∀ {j t el size id c : Nat} {r : RowV}, d[j]? = some (FamP.row t el size id c) → rowRd el size y t = some r → (rvV d y).n j = r.n := by
    intro j t el size id c r h1 hr
    have hrow : rvR d y j = some r := by simp only [rvR, h1, Option.bind_some, rwOf, hr]
    simp only [rvV, hrow, Option.map_some, Option.getD_some]
  have scal : ∀ {j : Nat} {p : FamP} {z : Cv} {l : Lf}, d[j]? = some p → scRd y p = some z → l.fits z = true → (∀ e' : Env, (l.cv (rvV d y).b (rvV d y).i j).den e' = z.den e') := by
    intro j p z l h1 h2 h3 e'
    refine fits_den h3 ?_ ?_ e'
    · simp only [rvV, rvB, h1, Option.bind_some, h2, Option.map_some, Option.getD_some]
    · simp only [rvV, rvI, h1, Option.bind_some, h2, Option.map_some, Option.getD_some]
  refine ⟨hR.sz, hR.df, ?_, ⟨hR.hp.new, ?_, ?_, ?_, ?_, ?_, ?_, ?_, ?_, hR.hp.fr⟩⟩
  · intro t v hv
    by_cases h : inF d (.t t)
    · obtain ⟨j, p, z, h1, h2, h3⟩ := fam_in (v := rvV d y) (s := look σ) h
      rw [hT] at h3
      have hok := itm h1
      cases p with
      | t n l =>
        simp only [FamP.at_] at h2
        split at h2
        · rename_i e1
          subst e1
          obtain rfl := Option.some.inj h2
          rw [h3] at hv
          obtain rfl : Sv.one _ = v := by simpa using hv
          simp only [okFamP] at hok
          split at hok
          · rename_i z hz
            have hl : look y (.t t) = some (.sv (.one z)) := by
              simp only [scRd] at hz
              split at hz
              · rename_i z' hz'
                obtain rfl := Option.some.inj hz
                simp only [look, hz']; rfl
              · cases hz
            obtain ⟨q1, q2, _⟩ := hR.tm t _ hl
            exact ⟨q1, q2.trans ((scal h1 hz hok _).symm.trans (by cases l <;> rfl)), l.cv_sc _ _ _ _⟩
          · cases hok
        · cases h2
      | c id off l => cases h2
      | row t' el size id c =>
        simp only [FamP.at_] at h2
        split at h2
        · rename_i e1
          subst e1
          obtain rfl := Option.some.inj h2
          rw [h3] at hv
          obtain ⟨⟨r, hr, q1, q2, _⟩, _⟩ := rowI (List.mem_of_getElem? h1)
          obtain ⟨v1, k1, k2, b1, k3, _⟩ := rowRd_at hr
          obtain ⟨p1, p2, _⟩ := hR.tm t _ k1
          obtain rfl : Sv.one (.slc id (.lit 0) (.opq ((rvV d y).n j)) (.nam c)) = v := by simpa using hv
          refine ⟨p1, p2.trans ?_, ?_, trivial, trivial, ?_⟩
          · rw [k2, rrd h1 hr]
            simp only [Sv.den, Cv.den, Sn.den, renE, Env.ad, q1, q2]
          · have : inF d (.k id) := inF_k.2 (mem_rIds (List.mem_of_getElem? h1)).1
            obtain ⟨j', p', z', g1, g2, g3⟩ := fam_in (v := rvV d y) (s := look σ) this
            unfold kn
            rw [← hT, g3]
            cases p' with
            | t n l => cases g2
            | c id off l => cases g2
            | row => simp only [FamP.at_] at g2; split at g2 <;> first | (obtain rfl := Option.some.inj g2; rfl) | cases g2
          · have : inF d (.n c) := ⟨_, List.mem_of_getElem? h1, rvV d y, 0, by simp [FamP.at_]⟩
            obtain ⟨j', p', z', g1, g2, g3⟩ := fam_in (v := rvV d y) (s := look σ) this
            show knn T c
            unfold knn
            rw [← hT, g3]
            cases p' with
            | t n l => cases g2
            | c id off l => cases g2
            | row => simp only [FamP.at_] at g2; split at g2 <;> first | (obtain rfl := Option.some.inj g2; rfl) | cases g2
        · cases h2
    · have h3 : T (.t t) = look σ (.t t) := by rw [← hT]; exact fam_out h
      rw [h3] at hv
      obtain ⟨q1, q2, _⟩ := hR.tm t v (hkeep _ _ hv h (by simp))
      have hsc := hws.tm t v hv
      exact ⟨q1, q2.trans (Sv.den_agree hA hsc).symm, hsc.sub hS⟩
  · intro id off v hv
    by_cases h : inF d (.c id off)
    · obtain ⟨j, p, z, h1, h2, h3⟩ := fam_in (v := rvV d y) (s := look σ) h
      rw [hT] at h3
      have hok := itm h1
      cases p with
      | t n l => cases h2
      | c id' off' l =>
        simp only [FamP.at_] at h2
        split at h2
        · rename_i e1
          obtain ⟨rfl, rfl⟩ := e1
          obtain rfl := Option.some.inj h2
          rw [h3] at hv
          obtain rfl : l.cv (rvV d y).b (rvV d y).i j = v := by simpa using hv
          simp only [okFamP, Bool.and_eq_true] at hok
          obtain ⟨ok1, ok2⟩ := hok
          split at ok1
          · rename_i z hz
            split at ok2
            · rename_i t0 ro0 cs0 cp0 hb0
              have hl : look y (.c id off) = some (.cv z) := by
                simp only [scRd] at hz
                obtain ⟨b, hb, hc⟩ := Option.bind_eq_some_iff.1 hz
                simp only [look, hb, Option.bind_some, hc, Option.map_some]
              obtain ⟨_, _, q3⟩ := hR.hp.cl id off z hl
              have hk : kn (look σ) id := by rw [kn_look, hb0]; rfl
              refine ⟨l.cv_sc _ _ _ _, ⟨t0, ro0, cs0.length, cp0, by rw [Tk hk]; simp only [look, hb0]; rfl, blt_iff.1 ok2⟩, ?_⟩
              rw [adk hk, q3, ← scal h1 hz ok1 e]
              cases l <;> rfl
            · cases ok2
          · cases ok1
        · cases h2
      | row t el size id' c =>
        simp only [FamP.at_] at h2
        split at h2
        · obtain rfl := Option.some.inj h2
          rw [h3] at hv; cases hv
        · cases h2
    · have h3 : T (.c id off) = look σ (.c id off) := by rw [← hT]; exact fam_out h
      rw [h3] at hv
      obtain ⟨_, _, q3⟩ := hR.hp.cl id off v (hkeep _ _ hv h (by simp))
      obtain ⟨s1, t0, ro0, n0, cp0, s2, s3⟩ := hws.cl id off v hv
      have hk : kn (look σ) id := by unfold kn; rw [s2]; rfl
      refine ⟨s1.sub hS, ⟨t0, ro0, n0, cp0, by rw [Tk hk]; exact s2, s3⟩, ?_⟩
      rw [adk hk, q3, Cv.den_agree hA s1]
  · intro i t n cp hb off ho
    rcases blkT hb rfl with ⟨_, h2, h3, h4⟩ | ⟨j, t, el, size, c, r, _, hr, h, _⟩
    · rw [adk h4]; exact hR.hp.ar i t n cp h2 off ho
    · cases h
  · intro i t ro n f cp hb off ho
    rcases blkT hb rfl with ⟨_, h2, h3, h4⟩ | ⟨j, t', el, size, c, r, _, hr, h, h3, _⟩
    · rw [adk h4]; exact hR.hp.oq i t ro n f cp h2 off ho
    · cases h
      have had : (renE y d e).ad i off = e.ad r.id off := by unfold Env.ad renE; simp only [h3]
      rw [had]
      have hcut : cutF r.m r.f off = r.f off := by unfold cutF; rw [blt_iff.2 ho]; rfl
      rw [hcut]
      obtain ⟨_, _, _, b1, k1, _, _, _, _, _, k7⟩ := rowRd_at hr
      rcases k7 with ⟨f, rfl, hf⟩ | ⟨cs, rfl, hcs, hlen, hf⟩
      · rw [hf]; exact ⟨(hR.hp.oq _ _ _ _ _ _ k1 off ho).1, fun _ => (hR.hp.oq _ _ _ _ _ _ k1 off ho).2 rfl⟩
      · have hlt : off < cs.length := by omega
        obtain ⟨z1, z2⟩ := hcs off _ (List.getElem?_eq_getElem hlt)
        refine ⟨?_, fun _ => (hR.hp.ar _ _ _ _ k1 off hlt).1⟩
        rw [(hR.hp.cl _ _ _ z1).2.2, hf]
        simp only [List.getElem?_eq_getElem hlt, Option.map_some, Option.getD_some]
        exact congrArg some (Sv.free_den (v := .one (cs[off])) z2 env0 e)
  · intro i b c es hb hc
    have hl : b.live = true := by cases b <;> first | rfl | cases hc
    rcases blkT hb hl with ⟨h1, h2, h3, h4⟩ | ⟨j, t', el, size, c', r, hj, hr, rfl, h3, h5, _⟩
    · obtain ⟨_, q2, cs, q3, q4, q5⟩ := hR.hp.cp i b c es h2 hc
      have hkc := hws.cp i b c es h1 hc
      refine ⟨hS.2 c hkc, by rw [hA.1 i h4]; exact q2, cs, by rw [hA.1 i h4]; exact q3, by rw [hA.2 c hkc]; exact q4, q5⟩
    · obtain ⟨rfl, rfl⟩ := Prod.mk.inj (Option.some.inj hc)
      obtain ⟨_, _, _, b1, k1, _, _, k4, k5, k6, _⟩ := rowRd_at hr
      obtain ⟨_, q2, cs, q3, q4, q5⟩ := hR.hp.cp _ _ _ _ k1 k6
      have hpl : (renE y d e).pl i = e.pl r.id := by show e.pl (renI y d i) = _; rw [h3]
      have hnm : (renE y d e).nm c' = e.nm r.c := by show e.nm (renC y d c') = _; rw [h5]
      refine ⟨?_, by rw [hpl]; exact q2, cs, by rw [hpl, q3, k4]; rfl, by rw [hnm]; exact q4, by show r.m ≤ cs.size; rw [← k5]; exact q5⟩
      have : inF d (.n c') := ⟨_, List.mem_of_getElem? hj, rvV d y, 0, by simp [FamP.at_]⟩
      obtain ⟨j', p', z', g1, g2, g3⟩ := fam_in (v := rvV d y) (s := look σ) this
      unfold knn
      rw [← hT, g3]
      cases p' with
      | t n l => cases g2
      | c id off l => cases g2
      | row => simp only [FamP.at_] at g2; split at g2 <;> first | (obtain rfl := Option.some.inj g2; rfl) | cases g2
  · intro i i' b b' hi hi' hr hl hne
    obtain ⟨b1, k1, k2, k3, _⟩ := blkY hi (rl b hr)
    obtain ⟨b2, m1, m2, m3, _⟩ := blkY hi' hl
    refine hR.hp.inj _ _ b1 b2 k1 m1 (k2.trans hr) m3 fun he => hne ?_
    rcases blkT hi (rl b hr) with ⟨h1, h2, h3, h4⟩ | ⟨j, t', el, size, c', r, hj, hrr, hbb, h3, h5, h6⟩
    · rcases blkT hi' hl with ⟨g1, g2, g3, g4⟩ | ⟨j2, t2, el2, size2, c2, r2, gj, grr, gbb, g3, g5, g6⟩
      · rw [h3, g3] at he; exact he
      · rw [h3, g3] at he
        rw [kn_look, he, g6] at h4; cases h4
    · rcases blkT hi' hl with ⟨g1, g2, g3, g4⟩ | ⟨j2, t2, el2, size2, c2, r2, gj, grr, gbb, g3, g5, g6⟩
      · rw [h3, g3] at he
        rw [kn_look, ← he, h6] at g4; cases g4
      · exact renI_inj o4 (mem_rIds (List.mem_of_getElem? hj)).1 (mem_rIds (List.mem_of_getElem? gj)).1 o2 he
  · intro i b hi hl
    obtain ⟨b1, k1, _, k3, _⟩ := blkY hi hl
    exact hR.hp.lt _ b1 k1 k3
  · intro i b hi hr
    obtain ⟨b1, k1, k2, _, _⟩ := blkY hi (rl b hr)
    exact hR.hp.mu _ b1 k1 (k2.trans hr)
  · refine ⟨fun id p hp => ?_, fun c m hm => ?_⟩
    · have hk := hpin.1 id p hp
      exact ⟨(hA.1 id hk).trans (hR.hp.pin.1 id p hp).1, hS.1 id hk⟩
    · have hk := hpin.2 c m hm
      exact ⟨(hA.2 c hk).trans (hR.hp.pin.2 c m hm).1, hS.2 c hk⟩
end
end Sx
end Go.Proofs.Ytladkknbkgomfaa
