/-
  A function that is handed values without addresses: its contract in any world. An argument that is made of numbers and truth values alone, in names.
-/
import Derived.Test.YtpdhkgfdmpofiaaGreatDoorSxn
import Derived.Below
import Derived.ProofKit
import Derived.OpenShut
import Derived.WideShapes
set_option linter.unusedSimpArgs false
set_option linter.unusedVariables false
namespace Go.Proofs.YtpdhkgfdmpofiaaGreatDoor
namespace Sx
open Go.RowKit Go.ChangeShapes Go.WideShapes

section
variable {P : Program} {tb : Tb}

/-- Nothing is known. -/
def st0 : St := ⟨[], [], 0, [], 0, [], []⟩
theorem look_st0 (l : Loc) : look st0 l = none := by cases l <;> rfl
def env0 : Env := ⟨fun _ => (0, 0), fun _ => 0⟩
def ctx0 (w : World) : Ctx := ⟨fun b => w.heap.size ≤ b, fun _ => none, fun _ => none, w⟩
theorem hp0 (w : World) (hG : Glob0 w := by exact glob0 w) : Hp (ctx0 w) env0 (look st0) w := by
  refine ⟨fun _ h => h, ?_, ?_, ?_, ?_, ?_, ?_, ?_, ⟨fun _ _ h => (by cases h), fun _ _ h => (by cases h)⟩, ⟨rfl, rfl, rfl, Nat.le_refl _, fun _ _ _ => rfl, hG⟩⟩ <;> (try clear hG) <;>
    intros <;> simp only [look_st0, reduceCtorEq] at *
/-- Values that hold no names. -/
def Cv.freeB : Cv → Bool
  | .ptr _ _ => false
  | .slc _ _ _ _ => false
  | .fn _ caps => caps.isEmpty
  | _ => true
def Sv.freeB : Sv → Bool
  | .one c => c.freeB
  | .agg cs => cs.all Cv.freeB
  | .tup vs => vs.all fun p => p.2.all Cv.freeB
theorem Cv.free_sc {c : Cv} (h : c.freeB = true) (s : Sto) : c.sc s := by
  cases c with
  | ptr id off => cases h
  | slc id off l c => cases h
  | fn f caps => obtain rfl := List.isEmpty_iff.1 h; exact fun p hp => by cases hp
  | _ => trivial
theorem Sv.free_sc {v : Sv} (h : v.freeB = true) (s : Sto) : v.sc s := by
  cases v with
  | one c => exact Cv.free_sc h s
  | agg cs => exact fun c hc => Cv.free_sc (List.all_eq_true.1 h c hc) s
  | tup vs => exact fun p hp c hc => Cv.free_sc (List.all_eq_true.1 (List.all_eq_true.1 h p hp) c hc) s
theorem Sv.free_den {v : Sv} (h : v.freeB = true) (e e' : Env) : v.den e' = v.den e :=
  Sv.den_agree (s := fun _ => none) ⟨fun _ h => (by cases h), fun _ h => (by cases h)⟩ (Sv.free_sc h _)

/-- The contract in any world. -/
theorem FunOk.any {f : FuncId} {args : List Sv} {v : Sv} {σ' : St} (h : FunOk P f args st0 v σ') (hargs : ∀ x ∈ args, x.freeB = true) (hv : v.freeB = true) (w : World) (hG : Glob0 w := by exact glob0 w) :
    Calls P f (args.map (·.den env0)).toArray w fun en w' => en = .returned (v.den env0) ∧ Below w.heap.size w w' := by
  refine (h.run (ctx0 w) env0 w (hp0 w hG) fun x hx => Sv.free_sc (hargs x hx) _).mono fun en w' => ?_
  rintro ⟨e', -, hp, rfl, -⟩
  refine ⟨by rw [Sv.free_den hv e' env0], hp.fr.os, hp.fr.tape, hp.fr.output, hp.fr.size, fun k hk => hp.fr.block k hk ?_⟩
  show ¬ w.heap.size ≤ k
  omega

/-- What is known stays known where nothing that was there is written. -/
theorem Hp.keep {C : Ctx} {e : Env} {s : Sto} {w w' : World} (h : Hp C e s w) (b : Below w.heap.size w w') : Hp C e s w' := by
  have keep : ∀ i b, s (.k i) = some (.bk b) → b.live = true → w'.heap[(e.pl i).1]? = w.heap[(e.pl i).1]? := fun i x hx hl => b.block _ (h.lt i x hx hl)
  refine ⟨h.new, ?_, ?_, ?_, ?_, h.inj, ?_, h.mu, h.pin, ?_⟩
  · intro i off x hx
    obtain ⟨h1, ⟨t, ro, n, cp, h2, h3⟩, h4⟩ := h.cl i off x hx
    exact ⟨h1, ⟨t, ro, n, cp, h2, h3⟩, by rw [World.cell?_of_block (w := w) (keep i _ h2 rfl), h4]⟩
  · intro i t n cp hx off ho
    have hk := keep i _ hx rfl
    rw [World.frozen?_of_block (w := w) hk, World.cell?_of_block (w := w) hk]
    exact h.ar i t n cp hx off ho
  · intro i t ro n f cp hx off ho
    have hk := keep i _ hx rfl
    rw [World.frozen?_of_block (w := w) hk, World.cell?_of_block (w := w) hk]
    exact h.oq i t ro n f cp hx off ho
  · intro i x c es hx hc
    have hl : x.live = true := by cases x <;> first | rfl | cases hc
    obtain ⟨h1, h2, cs, h3, h4⟩ := h.cp i x c es hx hc
    exact ⟨h1, h2, cs, (keep i x hx hl).trans h3, h4⟩
  · intro i x hx hl
    exact Nat.lt_of_lt_of_le (h.lt i x hx hl) b.size
  · have f := h.fr
    exact ⟨b.os.trans f.os, b.tape.trans f.tape, b.output.trans f.output, Nat.le_trans f.size b.size, fun k hk hM => (b.block k (Nat.lt_of_lt_of_le hk f.size)).trans (f.block k hk hM), f.gl⟩
/-- A function that hands a value back and leaves alone what was there: what a caller's state says of it. -/
theorem FunOk.of_any {f : FuncId} {args : List Sv} {v : Sv} {σ : St} (hv : v.freeB = true) (h : ∀ (e : Env) (w : World), Calls P f (args.map (·.den e)).toArray w fun en w' => en = .returned (v.den e) ∧ Below w.heap.size w w') : FunOk P f args σ v σ := by
  refine ⟨fun C e w hp _ => ?_, KeepL.refl _⟩
  refine (h e w).mono fun en w' => ?_
  rintro ⟨rfl, hb⟩
  exact ⟨e, Agree.refl _ _, hp.keep hb, rfl, Sv.free_sc hv _⟩

theorem FunOk.of_anyG {f : FuncId} {args : List Sv} {v : Sv} {σ : St} (hv : v.freeB = true) (h : ∀ (e : Env) (w : World), Glob0 w → Calls P f (args.map (·.den e)).toArray w fun en w' => en = .returned (v.den e) ∧ Below w.heap.size w w') : FunOk P f args σ v σ := by
  refine ⟨fun C e w hp _ => ?_, KeepL.refl _⟩
  refine (h e w hp.fr.glob0).mono fun en w' => ?_
  rintro ⟨rfl, hb⟩
  exact ⟨e, Agree.refl _ _, hp.keep hb, rfl, Sv.free_sc hv _⟩

/-! The answer is true. -/
def okT : Tree FLeaf → Bool
  | .leaf y => match y.1 with
    | .one (.b b _) => b
    | _ => false
  | .must b t => b && okT t
  | .br b t f => bif b then okT t else okT f
  | .fail => false
theorem okT_at : ∀ {T : Tree FLeaf}, okT T = true → ∃ y l, T.At y ∧ y.1 = .one (.b true l)
  | .leaf y, h => by
    obtain ⟨v, σ⟩ := y
    cases v with
    | one c => cases c with
      | b b l => obtain rfl : b = true := h; exact ⟨_, l, rfl, rfl⟩
      | _ => cases h
    | _ => cases h
  | .must b t, h => by
    obtain ⟨h1, h2⟩ := Bool.and_eq_true_iff.1 (show (b && okT t) = true from h)
    obtain ⟨y, l, h3, h4⟩ := okT_at h2
    exact ⟨y, l, ⟨h1, h3⟩, h4⟩
  | .br b t f, h => by
    have h' : (bif b then okT t else okT f) = true := h
    cases b with
    | true => obtain ⟨y, l, h3, h4⟩ := okT_at (T := t) h'; exact ⟨y, l, Or.inl ⟨rfl, h3⟩, h4⟩
    | false => obtain ⟨y, l, h3, h4⟩ := okT_at (T := f) h'; exact ⟨y, l, Or.inr ⟨rfl, h3⟩, h4⟩
theorem true_any {wf : List FuncId} {sp : FuncId → Option (List Sv → St → Tree FLeaf)} {fuel d f : Nat} (hT : TbOk P tb) (hm : P.follows .mixedOrders = true) (hs : SpOk P sp) {args : List Sv} (hargs : ∀ x ∈ args, x.freeB = true)
    (h : okT (evFn tb wf sp fuel d f args st0) = true) (w : World) (hG : Glob0 w := by exact glob0 w) : Calls P f (args.map (·.den env0)).toArray w fun en w' => en = .returned (.bool true) ∧ Below w.heap.size w w' := by
  obtain ⟨y, l, h1, h2⟩ := okT_at h
  have := (evFn_at hT hm hs h1).any hargs (by rw [h2]; rfl) w hG
  rw [h2] at this
  exact this
theorem spNone : SpOk P fun _ => none := fun _ _ h => by cases h
/-- One function is known to answer true. -/
def spTrue (g : Nat) (f : FuncId) : Option (List Sv → St → Tree FLeaf) := match Nat.beq g f with
  | true => some fun args σ => match args with
    | [] => .leaf (.one (.b true true), σ)
    | _ => .fail
  | false => none
theorem spTrue_okG {g : Nat} (h : ∀ w, Glob0 w → Calls P g #[] w fun en w' => en = .returned (.bool true) ∧ Below w.heap.size w w') : SpOk P (spTrue g) := by
  intro f k hk args σ y hy
  unfold spTrue at hk
  split at hk
  · rename_i hb
    obtain rfl := beq_iff'.1 hb
    obtain rfl := Option.some.inj hk
    cases args with
    | nil => obtain rfl := (show _ = y from hy); exact FunOk.of_anyG rfl fun e w hG => h w hG
    | cons => exact hy.elim
  · cases hk
theorem spTrue_ok {g : Nat} (h : ∀ w, Calls P g #[] w fun en w' => en = .returned (.bool true) ∧ Below w.heap.size w w') : SpOk P (spTrue g) := by
  intro f k hk args σ y hy
  unfold spTrue at hk
  split at hk
  · rename_i hb
    obtain rfl := beq_iff'.1 hb
    obtain rfl := Option.some.inj hk
    cases args with
    | nil => obtain rfl := (show _ = y from hy); exact FunOk.of_any rfl fun e w => h w
    | cons => exact hy.elim
  · cases hk

/-! An argument's leaves. -/
def Lf.ok : Lf → Value → Prop
  | .b, v => ∃ b, v = .bool b
  | .i k, v => ∃ n, v = .int k n ∧ (Lit.int k n).wf = true
inductive All2 {α β : Type} (R : α → β → Prop) : List α → List β → Prop where
  | nil : All2 R [] []
  | cons {a b l m} : R a b → All2 R l m → All2 R (a :: l) (b :: m)
theorem All2.append {α β : Type} {R : α → β → Prop} {l l' : List α} {m m' : List β} (h : All2 R l m) (k : All2 R l' m') : All2 R (l ++ l') (m ++ m') := by
  induction h with
  | nil => exact k
  | cons h _ ih => exact .cons h ih
theorem All2.length {α β : Type} {R : α → β → Prop} {l : List α} {m : List β} (h : All2 R l m) : l.length = m.length := by
  induction h with
  | nil => rfl
  | cons _ _ ih => simp [ih]

section
variable {H : Type} {enc : TypeId × Value → H} {w : World} {base : Nat} {spare : Nat → Bool} {held : Bool}
theorem cellsOf_info (hT : TbOk P tb) {t : TypeId} {i : TypeInfo} (h : tb.info t = some i) : P.cellsOf t = i.size := by simp [Program.cellsOf, hT.info h]
def LvOk (P : Program) (enc : TypeId × Value → H) (w : World) (base : Nat) (spare : Nat → Bool) (held : Bool) (f : TypeId → Option (List Lf)) : Prop :=
  ∀ t ls cs n x, f t = some ls → DataW.trod enc P w base spare held n t cs = some x → All2 Lf.ok ls cs
theorem lvFs_ok (hT : TbOk P tb) {f : TypeId → Option (List Lf)} (hf : LvOk P enc w base spare held f) {m : Nat} {cs : List Value} : ∀ {fs : List Field} {off : Nat} {ls : List Lf}, lvFs tb f fs off = some ls →
    (∀ fd ∈ fs, ∃ x, DataW.trod enc P w base spare held m fd.type ((cs.drop fd.offset).take (P.cellsOf fd.type)) = some x) → All2 Lf.ok ls ((cs.drop off).take ls.length)
  | [], off, ls, h, _ => by
    obtain rfl := Option.some.inj h
    simpa using All2.nil
  | fd :: fs, off, ls, h, hx => by
    simp only [lvFs] at h
    split at h
    · rename_i l i hl hi
      split at h
      · rename_i hb
        obtain ⟨h1, h2⟩ := Bool.and_eq_true_iff.1 hb
        have h1 := beq_iff'.1 h1
        have h2 := beq_iff'.1 h2
        obtain ⟨r, hr, rfl⟩ := Option.map_eq_some_iff.1 h
        obtain ⟨x, hx1⟩ := hx fd List.mem_cons_self
        rw [cellsOf_info hT hi, h1, ← h2] at hx1
        have a1 := hf _ _ _ _ _ hl hx1
        have a2 := lvFs_ok hT hf hr fun g hg => hx g (List.mem_cons_of_mem _ hg)
        rw [← h2, ← List.drop_drop] at a2
        have := a1.append a2
        rw [List.length_append]
        have he : ∀ (L : List Value) (a b : Nat), L.take a ++ (L.drop a).take b = L.take (a + b) := fun L a b => by
          rw [List.take_add]
        rw [← he]
        exact this
      · cases h
    · cases h
theorem lvRep_len {l : List Lf} : ∀ n, (lvRep l n).length = n * l.length
  | 0 => by simp [lvRep]
  | n + 1 => by rw [lvRep, List.length_append, lvRep_len n, Nat.add_mul]; omega
theorem lvRep_ok {l : List Lf} {cs : List Value} {c : Nat} (hc : l.length = c) : ∀ {n k : Nat}, (∀ i, i < n → All2 Lf.ok l ((cs.drop ((k + i) * c)).take c)) → All2 Lf.ok (lvRep l n) ((cs.drop (k * c)).take (n * c))
  | 0, k, _ => by simpa [lvRep] using All2.nil
  | n + 1, k, h => by
    have a1 := h 0 (by omega)
    have a2 := lvRep_ok hc (n := n) (k := k + 1) fun i hi => by
      have := h (i + 1) (by omega)
      rwa [show k + (i + 1) = k + 1 + i by omega] at this
    have := a1.append a2
    rw [Nat.add_zero, show (k + 1) * c = k * c + c by rw [Nat.add_mul]; omega, ← List.drop_drop, ← List.take_add] at this
    rw [lvRep, show (n + 1) * c = c + n * c by rw [Nat.add_mul]; omega]
    exact this
theorem chkLen_some (hT : TbOk P tb) {t : TypeId} {o : Option (List Lf)} {ls : List Lf} (h : chkLen tb t o = some ls) : o = some ls ∧ ls.length = P.cellsOf t := by
  unfold chkLen at h
  split at h
  · rename_i l i hi
    split at h
    · rename_i hb
      obtain rfl := Option.some.inj h
      exact ⟨rfl, by rw [cellsOf_info hT hi]; exact beq_iff'.1 hb⟩
    · cases h
  · cases h
theorem leaves_ok (hT : TbOk P tb) : ∀ d, LvOk P enc w base spare held (leaves tb d)
  | 0 => fun _ _ _ _ _ h => by cases h
  | d + 1 => by
    intro t ls cs n x h hx
    simp only [leaves] at h
    split at h
    · rename_i hu
      obtain rfl := Option.some.inj h
      obtain ⟨b, rfl, _⟩ := DataW.trod_bool (hT.und hu) hx
      exact .cons ⟨b, rfl⟩ .nil
    · rename_i k hu
      obtain rfl := Option.some.inj h
      obtain ⟨v, rfl, _, hw⟩ := DataW.trod_int (hT.und hu) hx
      exact .cons ⟨v, rfl, hw⟩ .nil
    · rename_i fs hu
      obtain ⟨h, hll⟩ := chkLen_some hT h
      obtain ⟨xs, m, _, _, hl, hxl, hg⟩ := DataW.trod_struct (hT.und hu) hx
      have := lvFs_ok hT (leaves_ok hT d) (m := m) (cs := cs) h fun fd hfd => by
        obtain ⟨j, hj⟩ := List.getElem?_of_mem hfd
        have h1 := hg j fd (by rw [← Array.getElem?_toList]; exact hj)
        have hlt : j < xs.length := by
          rw [hxl]
          have := (List.getElem?_eq_some_iff.1 hj).1
          simpa using this
        rw [List.getElem?_eq_getElem hlt] at h1
        exact ⟨_, h1⟩
      rwa [List.drop_zero, hll, ← hl, List.take_length] at this
    · rename_i n' e hu
      split at h
      · rename_i l i hl hi
        split at h
        · rename_i hb
          obtain ⟨h, hll⟩ := chkLen_some hT h
          obtain rfl := Option.some.inj h
          have hb := beq_iff'.1 hb
          obtain ⟨xs, m, _, _, hlen, hxl, hg⟩ := DataW.trod_array (hT.und hu) hx
          have := lvRep_ok (cs := cs) hb (n := n') (k := 0) fun j hj => by
            have h1 := hg j hj
            rw [List.getElem?_eq_getElem (by omega), cellsOf_info hT hi] at h1
            rw [Nat.zero_add]
            exact leaves_ok hT d _ _ _ _ _ hl h1
          rwa [Nat.zero_mul, List.drop_zero, ← hb, ← lvRep_len, hll, ← hlen, List.take_length] at this
        · cases h
      · cases h
    · cases h
end

/-! Leaves in names: the truth value bs j, the number ns j, for leaf j. -/
def Lf.cv (bs : Nat → Bool) (ns : Nat → Int) (j : Nat) : Lf → Cv
  | .b => .b (bs j) false
  | .i k => .i k (ns j) false
def symL (bs : Nat → Bool) (ns : Nat → Int) : Nat → List Lf → List Cv
  | _, [] => []
  | j, l :: ls => l.cv bs ns j :: symL bs ns (j + 1) ls
/-- Each number is one of its kind. -/
def WfL (ns : Nat → Int) (ls : List Lf) : Prop := ∀ j k, ls[j]? = some (.i k) → (Lit.int k (ns j)).wf = true
def getB (cs : List Value) (j : Nat) : Bool := match cs[j]? with
  | some (.bool b) => b
  | _ => false
def getN (cs : List Value) (j : Nat) : Int := match cs[j]? with
  | some (.int _ n) => n
  | _ => 0
theorem symL_of {c0 : List Value} : ∀ {ls : List Lf} {cs : List Value} {j : Nat}, All2 Lf.ok ls cs → (∀ i, cs[i]? = c0[j + i]?) → (∀ e, cs = (symL (getB c0) (getN c0) j ls).map (·.den e)) ∧ ∀ i k, ls[i]? = some (.i k) → (Lit.int k (getN c0 (j + i))).wf = true
  | _, _, j, .nil, _ => ⟨fun _ => rfl, fun i k h => by simp at h⟩
  | l :: ls, c :: cs, j, .cons hc h, hi => by
    obtain ⟨h1, h2⟩ := symL_of (j := j + 1) h fun i => by
      have := hi (i + 1)
      rw [show j + (i + 1) = j + 1 + i by omega] at this
      exact this
    have h0 : c0[j]? = some c := by have := hi 0; simpa using this.symm
    refine ⟨fun e => ?_, fun i k hk => ?_⟩
    · have hd : c = (l.cv (getB c0) (getN c0) j).den e := by
        cases l with
        | b => obtain ⟨b, rfl⟩ := hc; simp [Lf.cv, Cv.den, getB, h0]
        | i k => obtain ⟨n, rfl, _⟩ := hc; simp [Lf.cv, Cv.den, getN, h0]
      rw [symL, List.map_cons, ← h1 e, ← hd]
    · cases i with
      | zero =>
        obtain rfl : l = .i k := by simpa using hk
        obtain ⟨n, rfl, hw⟩ := hc
        simpa [getN, h0] using hw
      | succ i =>
        have := h2 i k (by simpa using hk)
        rwa [show j + 1 + i = j + (i + 1) by omega] at this
theorem symL_free (bs : Nat → Bool) (ns : Nat → Int) : ∀ (ls : List Lf) (j : Nat), (symL bs ns j ls).all Cv.freeB = true
  | [], _ => rfl
  | l :: ls, j => by
    rw [symL, List.all_cons, symL_free bs ns ls]
    cases l <;> rfl

section
variable {H : Type} {enc : TypeId × Value → H} {w : World} {base : Nat} {spare : Nat → Bool} {held : Bool} {t : TypeId} {v : Value} {dt : DataW H} {ps : List MemPlace} {r : Reach} {b0 : Nat}
def isWide (tb : Tb) (t : TypeId) : Bool := match tb.und t with
  | some (.struct _) => true
  | some (.array _ _) => true
  | _ => false
theorem okWide_array {n : Nat} {e : TypeId} (ht : P.underlying t = some (.array n e)) (h : Value.okWide P w r b0 t v) : ∃ cs, v = .agg cs ∧ cs.size = P.cellsOf t := by
  simp only [Value.okWide, ht] at h
  obtain ⟨cs, h1, h2, _⟩ := h
  exact ⟨cs, h1, h2⟩
/-- A struct or an array, in names. -/
theorem open_sym (hT : TbOk P tb) {d : Nat} {ls : List Lf} (hw : isWide tb t = true) (hl : leaves tb d t = some ls) (hv : Value.okWide P w r b0 t v) (h : DataW.Trod enc P w base spare held t v dt ps) :
    ∃ (bs : Nat → Bool) (ns : Nat → Int), v = (Sv.agg (symL bs ns 0 ls)).den env0 ∧ WfL ns ls := by
  have hv' : ∃ cs, v = .agg cs ∧ cs.size = P.cellsOf t := by
    unfold isWide at hw
    split at hw
    · rename_i hu; exact okWide_struct (hT.und hu) hv
    · rename_i hu; exact okWide_array (hT.und hu) hv
    · cases hw
  obtain ⟨cs, rfl, -⟩ := hv'
  obtain ⟨fuel, hf⟩ := h
  have h2 := leaves_ok hT d t ls cs.toList fuel _ hl (by simpa [Value.cells] using hf)
  obtain ⟨h3, h4⟩ := symL_of (c0 := cs.toList) (j := 0) h2 (fun i => by rw [Nat.zero_add])
  refine ⟨getB cs.toList, getN cs.toList, ?_, fun j k hj => by have := h4 j k hj; rwa [Nat.zero_add] at this⟩
  show Value.agg cs = .agg (densA env0 _)
  unfold densA
  rw [← h3 env0]
end
end
end Sx
end Go.Proofs.YtpdhkgfdmpofiaaGreatDoor
