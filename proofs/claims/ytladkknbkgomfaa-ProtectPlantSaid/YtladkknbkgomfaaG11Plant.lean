/-
  What each operation comes to: the ones that look at no memory.
-/
import Derived.Test.YtladkknbkgomfaaG10Plant
import Derived.Laws.Tables
import Derived.Laws.Slices
import Derived.Laws.AppendOwn
import Derived.Laws.OwnMore
set_option linter.unusedSimpArgs false
set_option linter.unusedVariables false
namespace Go.Proofs.Ytladkknbkgomfaa
namespace Sx
open Go.RowKit

section
variable {P : Program} {σ : St} {o : Oper} {tb : Tb}

theorem runV {x : Sem Value} {w w' : World} {v : Value} (h : x.run P w = .ok v w') : (do pure (Next.value (← x)) : Sem Next).run P w = .ok (.value v) w' := by
  rw [Sem.run_bind, h]; rfl
theorem runU {x : Sem Unit} {w w' : World} (h : x.run P w = .ok () w') : (do x; pure Next.skip : Sem Next).run P w = .ok .skip w' := by
  rw [Sem.run_bind, h]; rfl

/-- A pure operation on values that are told. -/
theorem TreeOk.val {v : Sv} (h : ∀ (s : Sto) (e : Env) (a : Act) (w : World), (∀ x ∈ o.op.operands, Sees σ s e a x) → (execOp a.eval o).run P w = .ok (.value (v.den e)) w ∧ v.sc s) : TreeOk P σ o (valT v) :=
  TreeOk.leaf (OpOk.pure fun _ e s a w _ hx _ => h s e a w hx)

/-! move, assign -/
theorem movS_ok {x : Operand} (ho : o.op = .move x ∨ o.op = .assign x) : TreeOk P σ o (optT ((evO σ x).map valT)) := by
  refine TreeOk.opt fun t ht => ?_
  obtain ⟨v, hv, rfl⟩ := Option.map_eq_some_iff.1 ht
  refine TreeOk.val fun s e a w hx => ?_
  have hm : x ∈ o.op.operands := by rcases ho with h | h <;> rw [h] <;> simp [Op.operands]
  obtain ⟨h1, h2⟩ := hx x hm v hv
  refine ⟨?_, h2⟩
  rcases ho with h | h <;> (unfold execOp; simp only [h]; rw [h1]; rfl)

/-! if one of two -/
def Cv.ite (c : Bool) : Cv → Cv → Option Cv
  | .b x _, .b y _ => some (.b (bif c then x else y) false)
  | .i k x _, .i k' y _ => if k = k' then some (.i k (bif c then x else y) false) else none
  | .s x _, .s y _ => some (.s (bif c then x else y) false)
  | _, _ => none
def itesL (c : Bool) : List Cv → List Cv → Option (List Cv)
  | [], [] => some []
  | x :: xs, y :: ys => match Cv.ite c x y, itesL c xs ys with
    | some z, some zs => some (z :: zs)
    | _, _ => none
  | _, _ => none
def itesT (c : Bool) : List (Bool × List Cv) → List (Bool × List Cv) → Option (List (Bool × List Cv))
  | [], [] => some []
  | (a, x) :: xs, (b, y) :: ys => match a == b, itesL c x y, itesT c xs ys with
    | true, some z, some zs => some ((a, z) :: zs)
    | _, _, _ => none
  | _, _ => none
def Sv.ite (c : Bool) : Sv → Sv → Option Sv
  | .one x, .one y => (Cv.ite c x y).map .one
  | .agg xs, .agg ys => (itesL c xs ys).map .agg
  | .tup xs, .tup ys => (itesT c xs ys).map .tup
  | _, _ => none
theorem Cv.ite_den {c : Bool} {x y z : Cv} (h : Cv.ite c x y = some z) : (∀ e, z.den e = (if c = true then x else y).den e) ∧ ∀ s, z.sc s := by
  cases x <;> cases y <;> simp only [Cv.ite] at h <;> first
    | cases h; done
    | (obtain rfl := Option.some.inj h; refine ⟨fun e => ?_, fun s => trivial⟩; cases c <;> rfl)
    | (split at h
       · rename_i hk; subst hk; obtain rfl := Option.some.inj h; refine ⟨fun e => ?_, fun s => trivial⟩; cases c <;> rfl
       · cases h)
theorem itesL_den {c : Bool} : ∀ {xs ys zs : List Cv}, itesL c xs ys = some zs → (∀ e, densA e zs = densA e (if c = true then xs else ys)) ∧ ∀ s, scs s zs
  | [], [], zs, h => by
    obtain rfl := Option.some.inj h
    exact ⟨fun e => by cases c <;> rfl, fun s x hx => by cases hx⟩
  | x :: xs, y :: ys, zs, h => by
    simp only [itesL] at h
    cases h1 : Cv.ite c x y with
    | none => rw [h1] at h; cases h
    | some z =>
      cases h2 : itesL c xs ys with
      | none => rw [h1, h2] at h; cases h
      | some zs' =>
        rw [h1, h2] at h
        obtain rfl := Option.some.inj h
        obtain ⟨d1, s1⟩ := Cv.ite_den h1
        obtain ⟨d2, s2⟩ := itesL_den h2
        refine ⟨fun e => ?_, fun s u hu => ?_⟩
        · have e1 := d1 e
          have e2 := d2 e
          cases c <;> simp only [Bool.false_eq_true, if_false, if_true, densA, List.map_cons] at e1 e2 ⊢ <;> (rw [e1]; have := congrArg Array.toList e2; simp only at this; rw [this])
        · cases hu with
          | head => exact s1 s
          | tail _ hu => exact s2 s u hu
  | [], _ :: _, _, h => by cases h
  | _ :: _, [], _, h => by cases h
theorem itesT_den {c : Bool} : ∀ {xs ys zs : List (Bool × List Cv)}, itesT c xs ys = some zs → (∀ e, zs.map (compDen e) = (if c = true then xs else ys).map (compDen e)) ∧ ∀ s, ∀ p ∈ zs, scs s p.2
  | [], [], zs, h => by
    obtain rfl := Option.some.inj h
    exact ⟨fun e => by cases c <;> rfl, fun s x hx => by cases hx⟩
  | (a, x) :: xs, (b, y) :: ys, zs, h => by
    simp only [itesT] at h
    split at h
    · rename_i z zs' hab hz hzs
      obtain rfl := Option.some.inj h
      obtain rfl : a = b := by simpa using hab
      obtain ⟨d1, s1⟩ := itesL_den hz
      obtain ⟨d2, s2⟩ := itesT_den hzs
      refine ⟨fun e => ?_, fun s p hp => ?_⟩
      · have e1 := d1 e
        have e2 : z.map (·.den e) = (if c = true then x else y).map (·.den e) := by
          unfold densA at e1
          exact List.toArray_inj e1
        have e3 := d2 e
        cases c with
        | true => simp only [if_true, List.map_cons] at e1 e2 e3 ⊢; rw [e3]; congr 1; unfold compDen; rw [e1, e2]
        | false => simp only [Bool.false_eq_true, if_false, List.map_cons] at e1 e2 e3 ⊢; rw [e3]; congr 1; unfold compDen; rw [e1, e2]
      · cases hp with
        | head => exact s1 s
        | tail _ hp => exact s2 s p hp
    · cases h
  | [], _ :: _, _, h => by cases h
  | _ :: _, [], _, h => by cases h
theorem Sv.ite_den {c : Bool} {x y z : Sv} (h : Sv.ite c x y = some z) : (∀ e, z.den e = (if c = true then x else y).den e) ∧ ∀ s, z.sc s := by
  cases x <;> cases y <;> simp only [Sv.ite] at h <;> try (cases h; done)
  · obtain ⟨u, hu, rfl⟩ := Option.map_eq_some_iff.1 h
    obtain ⟨d, s⟩ := Cv.ite_den hu
    exact ⟨fun e => (by have := d e; cases c <;> exact this), s⟩
  · obtain ⟨u, hu, rfl⟩ := Option.map_eq_some_iff.1 h
    obtain ⟨d, s⟩ := itesL_den hu
    exact ⟨fun e => (by have := d e; cases c <;> exact congrArg Value.agg this), s⟩
  · obtain ⟨u, hu, rfl⟩ := Option.map_eq_some_iff.1 h
    obtain ⟨d, s⟩ := itesT_den hu
    exact ⟨fun e => (by have := d e; cases c <;> exact congrArg (fun l => Value.tuple l.toArray) this), s⟩

/-- The tests of this region that have been decided: slot, and how. -/
abbrev Kn := List (Nat × Bool)
def KnOk (σ : St) (kn : Kn) : Prop := ∀ t d, alook kn t = some d → ∃ v l, alook σ.tm t = some (.one (.b v l)) ∧ v = d
def knO (kn : Kn) : Operand → Option Bool
  | .tmp t => alook kn t
  | _ => none
def pickS (σ : St) (kn : Kn) (c x y : Operand) : Tree OpE :=
  match knO kn c with
  | some true => optT ((evO σ x).map valT)
  | some false => optT ((evO σ y).map valT)
  | none => match evO σ c with
    | some (.one (.b v true)) => match v with
      | true => optT ((evO σ x).map valT)
      | false => optT ((evO σ y).map valT)
    | some (.one (.b v false)) => match evO σ x, evO σ y with
      | some vx, some vy => match Sv.ite v vx vy with
        | some z => valT z
        | none => .br v (valT vx) (valT vy)
      | _, _ => .fail
    | _ => .fail
theorem pickS_ok {kn : Kn} (hk : KnOk σ kn) {c x y : Operand} (ho : o.op = .pick c x y) : TreeOk P σ o (pickS σ kn c x y) := by
  have key : ∀ {v : Bool} {l : Bool}, evO σ c = some (.one (.b v l)) → ∀ {z : Operand}, z = (if v = true then x else y) → TreeOk P σ o (optT ((evO σ z).map valT)) := by
    intro v l hc z hz
    refine TreeOk.opt fun t ht => ?_
    obtain ⟨u, hu, rfl⟩ := Option.map_eq_some_iff.1 ht
    refine TreeOk.val fun s e a w hx => ?_
    obtain ⟨c1, c2⟩ := hx c (by rw [ho]; simp [Op.operands]) _ hc
    obtain ⟨h1, h2⟩ := hx z (by rw [ho, hz]; cases v <;> simp [Op.operands]) u hu
    refine ⟨?_, h2⟩
    have c1' : a.eval c = .bool v := c1
    unfold execOp
    simp only [ho, c1']
    rw [← h1, hz]
    cases v <;> rfl
  unfold pickS
  cases hkc : knO kn c with
  | some d =>
    obtain ⟨t, rfl⟩ : ∃ t, c = .tmp t := by cases c <;> first | exact ⟨_, rfl⟩ | cases hkc
    obtain ⟨v, l, h1, rfl⟩ := hk t d hkc
    cases v with
    | true => exact key h1 rfl
    | false => exact key h1 rfl
  | none =>
    simp only []
    split
    · rename_i v hc
      cases v with
      | true => exact key hc rfl
      | false => exact key hc rfl
    · rename_i v hc
      split
      · rename_i vx vy hvx hvy
        split
        · rename_i z hz
          obtain ⟨d, sc⟩ := Sv.ite_den hz
          refine TreeOk.val fun s e a w hx => ⟨?_, sc s⟩
          obtain ⟨c1, c2⟩ := hx c (by rw [ho]; simp [Op.operands]) _ hc
          obtain ⟨x1, _⟩ := hx x (by rw [ho]; simp [Op.operands]) _ hvx
          obtain ⟨y1, _⟩ := hx y (by rw [ho]; simp [Op.operands]) _ hvy
          have c1' : a.eval c = .bool v := c1
          unfold execOp
          simp only [ho, c1']
          rw [x1, y1, d e]
          cases v <;> rfl
        · refine TreeOk.br (fun hb => ?_) (fun hb => ?_)
          · have := key (z := x) hc (by rw [hb]; rfl)
            rw [hvx] at this; exact this
          · have := key (z := y) hc (by rw [hb]; rfl)
            rw [hvy] at this; exact this
      · exact TreeOk.fail
    · exact TreeOk.fail

/-! numbers, truth values, strings -/
def isDiv : BinOp → Bool
  | .quo => true
  | .rem => true
  | _ => false
def isShift : BinOp → Bool
  | .shl => true
  | .shr => true
  | _ => false
def Sv.isNil : Sv → Bool
  | .one (.val (.pointer none)) => true
  | .one (.val (.slice none _ _)) => true
  | .one (.val .nilFunc) => true
  | _ => false
/-- A pointer, a slice, a function that is not nil. -/
def Sv.isPtr : Sv → Bool
  | .one (.ptr _ _) => true
  | _ => false
def eqlB : BinOp → Option Bool
  | .eql => some true
  | .neq => some false
  | _ => none
def plainBin (op : BinOp) (t : TypeId) (x y : Operand) (a b : Value) : Option Value := prS (do eqGuard op t x y a b; binOp op t a b)
def binS (tb : Tb) (op : BinOp) (t : TypeId) (x y : Operand) (vx vy : Sv) : Tree OpE :=
  match vx, vy with
  | .one (.b p lp), .one (.b q lq) => match tb.und t, eqlB op with
    | some .bool, some true => valT (.one (.b (p == q) (lp && lq)))
    | some .bool, some false => valT (.one (.b (!(p == q)) (lp && lq)))
    | _, _ => .fail
  | .one (.i k n ln), .one (.i k' m lm) =>
    match isDiv op, lm with
    | true, false => match op with
      | .quo => if k = k' then .must (m != 0) (valT (.one (.i k (k.wrap (n.tdiv m)) false))) else .fail
      | .rem => if k = k' then .must (m != 0) (valT (.one (.i k (n.tmod m) false))) else .fail
      | _ => .fail
    | _, _ => match isShift op, lm with
      | true, false => .fail
      | _, _ => match plainBin op t x y (.int k n) (.int k' m) with
        | some v => valT (.one (Cv.ofL (ln && lm) v))
        | none => .fail
  | .one (.s n ln), .one (.s m lm) => match op with
    | .add => mustL (ln && lm) (decide (n.size + m.size ≤ 9223372036854775807)) (valT (.one (.s (n ++ m) (ln && lm))))
    | _ => match plainBin op t x y (.string n) (.string m) with
      | some v => valT (.one (Cv.ofL (ln && lm) v))
      | none => .fail
  | .one (.ptr _ _), .one (.val (.pointer none)) => match tb.und t, eqlB op with
    | some (.pointer _), some r => valT (.one (.b (!r) true))
    | _, _ => .fail
  | .one (.val (.pointer q)), .one (.val (.pointer none)) => match tb.und t, eqlB op with
    | some (.pointer _), some true => valT (.one (.b q.isNone true))
    | some (.pointer _), some false => valT (.one (.b (!q.isNone) true))
    | _, _ => .fail
  | .one (.slc _ _ _ _), .one (.val (.slice none _ _)) => match tb.und t, eqlB op with
    | some (.slice _), some r => valT (.one (.b (!r) true))
    | _, _ => .fail
  | _, _ => .fail
theorem plain_run {op : BinOp} {t : TypeId} {x y : Operand} {a b v : Value} (h : plainBin op t x y a b = some v) (w : World) : (do eqGuard op t x y a b; binOp op t a b : Sem Value).run P w = .ok v w := prS_run h P w
theorem equal_run {t : TypeId} {a b : Value} {d : TypeDesc} (_hd : P.underlying t = some d) {r : Bool} {w : World} (h : ∀ n, (Op.equalIn (n + 1) t a b).run P w = .ok r w) : (Op.equal t a b).run P w = .ok r w := h 9999
theorem binS_ok (hT : TbOk P tb) {op : BinOp} {t yt : TypeId} {x y : Operand} {vx vy : Sv} (ho : o.op = .binOp op t x y yt) (hx : evO σ x = some vx) (hy : evO σ y = some vy) : TreeOk P σ o (binS tb op t x y vx vy) := by
  have go : ∀ {v : Sv}, (∀ (e : Env) (w : World), (do eqGuard op t x y (vx.den e) (vy.den e); binOp op t (vx.den e) (vy.den e) : Sem Value).run P w = .ok (v.den e) w) → (∀ s, v.sc s) → TreeOk P σ o (valT v) := by
    intro v h hs
    refine TreeOk.val fun s e a w hh => ⟨?_, hs s⟩
    obtain ⟨x1, _⟩ := hh x (by rw [ho]; simp [Op.operands]) _ hx
    obtain ⟨y1, _⟩ := hh y (by rw [ho]; simp [Op.operands]) _ hy
    unfold execOp
    simp only [ho]
    rw [x1, y1]
    exact runV (h e w)
  unfold binS
  split
  · -- truth values
    split
    · rename_i p lp q lq _ _ hu hop
      obtain rfl : op = .eql := by cases op <;> first | rfl | cases hop
      refine go (fun e w => ?_) (fun _ => trivial)
      show ((do eqGuard .eql t x y (.bool p) (.bool q); binOp .eql t (.bool p) (.bool q) : Sem Value)).run P w = .ok (.bool (p == q)) w
      rw [Sem.run_bind, eqGuard_at_bool]
      show (do pure (Value.bool (← Op.equal t (.bool p) (.bool q))) : Sem Value).run P w = _
      rw [Sem.run_bind, equal_run (hT.und hu) fun n => run_equalIn_bool' w n t p q (hT.und hu)]
      rfl
    · rename_i p lp q lq _ _ hu hop
      obtain rfl : op = .neq := by cases op <;> first | rfl | cases hop
      refine go (fun e w => ?_) (fun _ => trivial)
      show ((do eqGuard .neq t x y (.bool p) (.bool q); binOp .neq t (.bool p) (.bool q) : Sem Value)).run P w = .ok (.bool !(p == q)) w
      rw [Sem.run_bind, eqGuard_at_bool]
      show (do pure (Value.bool (!(← Op.equal t (.bool p) (.bool q)))) : Sem Value).run P w = _
      rw [Sem.run_bind, equal_run (hT.und hu) fun n => run_equalIn_bool' w n t p q (hT.und hu)]
      rfl
    · exact TreeOk.fail
  · -- numbers
    rename_i k n ln k' m lm
    split
    · split
      · split
        · rename_i hk; subst hk
          refine TreeOk.must fun hm => go (fun e w => ?_) (fun _ => trivial)
          have hm' : m ≠ 0 := by simpa using hm
          show ((do eqGuard .quo t x y (.int k n) (.int k m); binOp .quo t (.int k n) (.int k m) : Sem Value)).run P w = _
          rw [Sem.run_bind, eqGuard_quo, binOp_quo]
          simp only [Sem.run_pure, Result.andThen_ok, Op.intDiv, if_neg hm']
          rfl
        · exact TreeOk.fail
      · split
        · rename_i hk; subst hk
          refine TreeOk.must fun hm => go (fun e w => ?_) (fun _ => trivial)
          have hm' : m ≠ 0 := by simpa using hm
          show ((do eqGuard .rem t x y (.int k n) (.int k m); binOp .rem t (.int k n) (.int k m) : Sem Value)).run P w = _
          rw [Sem.run_bind, eqGuard_rem, binOp_rem]
          simp only [Sem.run_pure, Result.andThen_ok, Op.intDiv, if_neg hm']
          rfl
        · exact TreeOk.fail
      · exact TreeOk.fail
    · split
      · exact TreeOk.fail
      · split
        · rename_i v hv
          exact go (fun e w => (plain_run hv w).trans (congrArg (fun z => Result.ok z w) (Cv.ofL_den _ v e).symm)) (fun s => Cv.ofL_sc _ v s)
        · exact TreeOk.fail
  · -- strings
    rename_i n ln m lm
    split
    · refine TreeOk.mustL fun hm => go (fun e w => ?_) (fun _ => trivial)
      have hm' : n.size + m.size ≤ 9223372036854775807 := by simpa using hm
      show ((do eqGuard .add t x y (.string n) (.string m); binOp .add t (.string n) (.string m) : Sem Value)).run P w = _
      rw [Sem.run_bind, eqGuard_add]
      simp only [Sem.run_pure, Result.andThen_ok, binOp, Op.stringOp, IntKind.max_i64]
      rw [if_neg (by omega)]
      rfl
    · split
      · rename_i v hv
        exact go (fun e w => (plain_run hv w).trans (congrArg (fun z => Result.ok z w) (Cv.ofL_den _ v e).symm)) (fun s => Cv.ofL_sc _ v s)
      · exact TreeOk.fail
  · -- a pointer and nil
    rename_i id off
    split
    · rename_i r el _ hu hop
      refine go (fun e w => ?_) (fun _ => trivial)
      have h1 : ∀ k, (Op.equalIn (k + 1) t (.pointer (some (e.ad id (off.den e)))) (.pointer none)).run P w = .ok false w := fun k => by
        simp [Op.equalIn, run_underlying (hT.und hu)]
      cases op <;> simp only [eqlB] at hop <;> first | cases hop; done | skip
      all_goals
        obtain rfl := Option.some.inj hop
        rw [Sem.run_bind]
        simp only [Sv.den, Cv.den, eqGuard_at_pointer, Sem.run_pure, Result.andThen_ok, binOp]
        rw [Sem.run_bind, equal_run (hT.und hu) h1]
        rfl
    · exact TreeOk.fail
  · -- a known pointer and nil
    rename_i q
    split
    · rename_i el _ hu hop
      obtain rfl : op = .eql := by cases op <;> first | rfl | cases hop
      refine go (fun e w => ?_) (fun _ => trivial)
      have h1 : ∀ k, (Op.equalIn (k + 1) t (.pointer q) (.pointer none)).run P w = .ok q.isNone w := fun k => by
        cases q <;> simp [Op.equalIn, run_underlying (hT.und hu)]
      rw [Sem.run_bind]
      simp only [Sv.den, Cv.den, eqGuard_at_pointer, Sem.run_pure, Result.andThen_ok, binOp]
      rw [Sem.run_bind, equal_run (hT.und hu) h1]
      rfl
    · rename_i el _ hu hop
      obtain rfl : op = .neq := by cases op <;> first | rfl | cases hop
      refine go (fun e w => ?_) (fun _ => trivial)
      have h1 : ∀ k, (Op.equalIn (k + 1) t (.pointer q) (.pointer none)).run P w = .ok q.isNone w := fun k => by
        cases q <;> simp [Op.equalIn, run_underlying (hT.und hu)]
      rw [Sem.run_bind]
      simp only [Sv.den, Cv.den, eqGuard_at_pointer, Sem.run_pure, Result.andThen_ok, binOp]
      rw [Sem.run_bind, equal_run (hT.und hu) h1]
      rfl
    · exact TreeOk.fail
  · -- a slice and nil
    rename_i id off len cap n c
    split
    · rename_i r el _ hu hop
      refine go (fun e w => ?_) (fun _ => trivial)
      have h1 : ∀ k, (Op.equalIn (k + 1) t (.slice (some (e.ad id (off.den e))) (len.den e) (cap.den e)) (.slice none n c)).run P w = .ok false w := fun k => by
        simp [Op.equalIn, run_underlying (hT.und hu)]
      cases op <;> simp only [eqlB] at hop <;> first | cases hop; done | skip
      all_goals
        obtain rfl := Option.some.inj hop
        rw [Sem.run_bind]
        simp only [Sv.den, Cv.den, eqGuard_at_slice, Sem.run_pure, Result.andThen_ok, binOp]
        rw [Sem.run_bind, equal_run (hT.und hu) h1]
        rfl
    · exact TreeOk.fail
  · exact TreeOk.fail

def unS (op : UnOp) (v : Sv) : Tree OpE := match v.pv with
  | some (x, l) => match prS (Op.unary op x) with
    | some y => valT (.one (Cv.ofL l y))
    | none => .fail
  | none => .fail
theorem unS_ok {op : UnOp} {t : TypeId} {x : Operand} {v : Sv} (ho : o.op = .unOp op t x) (hx : evO σ x = some v) : TreeOk P σ o (unS op v) := by
  unfold unS
  split
  · rename_i u l hp
    split
    · rename_i y hy
      refine TreeOk.val fun s e a w hh => ⟨?_, Cv.ofL_sc _ y s⟩
      obtain ⟨x1, _⟩ := hh x (by rw [ho]; simp [Op.operands]) _ hx
      unfold execOp
      simp only [ho]
      rw [x1, Sv.pv_den hp, show Sv.den e (.one (Cv.ofL l y)) = y from Cv.ofL_den _ y e]
      exact runV (prS_run hy P w)
    · exact TreeOk.fail
  · exact TreeOk.fail
def convS (tb : Tb) (src dst : TypeId) (v : Sv) : Tree OpE := match v, tb.und src, tb.und dst with
  | .one (.i _ n l), some _, some (.int k) => valT (.one (.i k (k.wrap n) l))
  | .one (.s x l), some .string, some .string => valT (.one (.s x l))
  | _, _, _ => .fail
theorem convS_ok (hT : TbOk P tb) {src dst : TypeId} {x : Operand} {v : Sv} (ho : o.op = .convert src dst x) (hx : evO σ x = some v) : TreeOk P σ o (convS tb src dst v) := by
  unfold convS
  split
  · rename_i k0 n l d k hs hd
    refine TreeOk.val fun s e a w hh => ⟨?_, trivial⟩
    obtain ⟨x1, _⟩ := hh x (by rw [ho]; simp [Op.operands]) _ hx
    unfold execOp
    simp only [ho]
    rw [x1]
    refine runV ?_
    simp only [convert, Sem.run_bind, run_und hT hs, run_und hT hd, Result.andThen_ok, Sv.den, Cv.den]
    rfl
  · rename_i u l hs hd
    refine TreeOk.val fun s e a w hh => ⟨?_, trivial⟩
    obtain ⟨x1, _⟩ := hh x (by rw [ho]; simp [Op.operands]) _ hx
    unfold execOp
    simp only [ho]
    rw [x1]
    refine runV ?_
    simp only [convert, Sem.run_bind, run_und hT hs, run_und hT hd, Result.andThen_ok, Sv.den, Cv.den]
    rfl
  · exact TreeOk.fail

/-! a closure -/
def pvOf : Sv → Option Pv
  | .one (.ptr id (.lit off)) => some (.ptr id off)
  | .one (.val v) => some (.val v true)
  | .one (.b v l) => some (.val (.bool v) l)
  | .one (.i k n l) => some (.val (.int k n) l)
  | .one (.s v l) => some (.val (.string v) l)
  | _ => none
theorem pvOf_den {v : Sv} {p : Pv} (h : pvOf v = some p) : (∀ e, p.den e = v.den e) ∧ ∀ s, v.sc s → p.sc s := by
  cases v with
  | one c =>
    cases c with
    | ptr id off =>
      cases off with
      | lit n => obtain rfl := Option.some.inj h; exact ⟨fun _ => rfl, fun _ hs => hs.1⟩
      | _ => cases h
    | _ => first | cases h; done | (obtain rfl := Option.some.inj h; exact ⟨fun _ => rfl, fun _ _ => trivial⟩)
  | _ => cases h
def pvsOf (σ : St) : List Operand → Option (List Pv)
  | [] => some []
  | x :: xs => match (evO σ x).bind pvOf, pvsOf σ xs with
    | some p, some ps => some (p :: ps)
    | _, _ => none
def funcS (σ : St) (f : Fn) (first caps : Array Operand) : Tree OpE := match first.toList, pvsOf σ caps.toList with
  | [], some ps => valT (.one (.fn f ps))
  | _, _ => .fail
theorem pvsOf_den {s : Sto} {e : Env} {a : Act} : ∀ {xs : List Operand} {ps : List Pv}, pvsOf σ xs = some ps → (∀ x ∈ xs, Sees σ s e a x) → ps.map (·.den e) = xs.map a.eval ∧ ∀ p ∈ ps, p.sc s
  | [], ps, h, _ => by obtain rfl := Option.some.inj h; exact ⟨rfl, fun p hp => by cases hp⟩
  | x :: xs, ps, h, hh => by
    simp only [pvsOf] at h
    cases h1 : (evO σ x).bind pvOf with
    | none => rw [h1] at h; cases h
    | some p =>
      cases h2 : pvsOf σ xs with
      | none => rw [h1, h2] at h; cases h
      | some ps' =>
        rw [h1, h2] at h
        obtain rfl := Option.some.inj h
        obtain ⟨v, hv, hp⟩ := Option.bind_eq_some_iff.1 h1
        obtain ⟨v1, v2⟩ := hh x List.mem_cons_self v hv
        obtain ⟨d, sc⟩ := pvOf_den hp
        obtain ⟨r1, r2⟩ := pvsOf_den h2 fun y hy => hh y (List.mem_cons_of_mem _ hy)
        refine ⟨by simp only [List.map_cons]; rw [d e, v1, r1], fun q hq => ?_⟩
        cases hq with
        | head => exact sc s v2
        | tail _ hq => exact r2 q hq
theorem funcS_ok {f : Fn} {first caps : Array Operand} (ho : o.op = .makeFunc f first caps) : TreeOk P σ o (funcS σ f first caps) := by
  unfold funcS
  split
  · rename_i ps hf hps
    obtain rfl : first = #[] := by
      apply Array.ext'
      simpa using hf
    refine TreeOk.val fun s e a w hh => ?_
    obtain ⟨r1, r2⟩ := pvsOf_den hps fun x hx => hh x (by rw [ho]; simpa [Op.operands] using hx)
    refine ⟨?_, r2⟩
    unfold execOp
    simp only [ho]
    refine runV ?_
    simp only [Instr.makeFunc, Sv.den, Cv.den, Sem.run_pure]
    rw [r1]
    have hcs : caps.map a.eval = (caps.toList.map a.eval).toArray := by
      obtain ⟨l⟩ := caps
      simp
    rw [hcs, Array.map_empty]
  · exact TreeOk.fail

def extractS (v : Sv) (ix : Nat) : Tree OpE := match v with
  | .tup vs => match vs[ix]? with
    | some (true, cs) => valT (.agg cs)
    | some (false, [c]) => valT (.one c)
    | _ => .fail
  | _ => .fail
theorem extractS_ok {x : Operand} {ix : Nat} {v : Sv} (ho : o.op = .extract x ix) (hx : evO σ x = some v) : TreeOk P σ o (extractS v ix) := by
  unfold extractS
  split
  · rename_i vs
    have run : ∀ (e : Env) (a : Act) (w : World) (p : Bool × List Cv), vs[ix]? = some p → a.eval x = Sv.den e (.tup vs) → (execOp a.eval o).run P w = .ok (.value (compDen e p)) w := by
      intro e a w p hp hx1
      unfold execOp
      simp only [ho]
      rw [hx1]
      refine runV ?_
      simp only [Instr.extract, Sv.den]
      have : (vs.map (compDen e)).toArray[ix]? = some (compDen e p) := by simp [hp]
      rw [this]
      rfl
    split
    · rename_i cs hp
      refine TreeOk.val fun s e a w hh => ?_
      obtain ⟨x1, x2⟩ := hh x (by rw [ho]; simp [Op.operands]) _ hx
      exact ⟨run e a w _ hp x1, x2 _ (List.mem_of_getElem? hp)⟩
    · rename_i c hp
      refine TreeOk.val fun s e a w hh => ?_
      obtain ⟨x1, x2⟩ := hh x (by rw [ho]; simp [Op.operands]) _ hx
      exact ⟨run e a w _ hp x1, x2 _ (List.mem_of_getElem? hp) c (by simp)⟩
    · exact TreeOk.fail
  · exact TreeOk.fail
end
end Sx
end Go.Proofs.Ytladkknbkgomfaa

/-
  What each operation comes to: fields, elements, slices, aggregates.
-/
set_option linter.unusedSimpArgs false
set_option linter.unusedVariables false
namespace Go.Proofs.Ytladkknbkgomfaa
namespace Sx
open Go.RowKit

section
variable {P : Program} {σ : St} {o : Oper} {tb : Tb}

def nilS (v : Sv) : Tree OpE := match v with
  | .one (.ptr _ _) => valT v
  | .one (.fn (.func _) _) => valT v
  | .one (.val (.pointer (some _))) => valT v
  | _ => .fail
theorem nilS_ok {x : Operand} {v : Sv} (ho : o.op = .nilCheck x) (hx : evO σ x = some v) : TreeOk P σ o (nilS v) := by
  unfold nilS
  split
  all_goals first
    | exact TreeOk.fail
    | (refine TreeOk.val fun s e a w hh => ?_
       obtain ⟨x1, x2⟩ := hh x (by rw [ho]; simp [Op.operands]) _ hx
       refine ⟨?_, x2⟩
       unfold execOp
       simp only [ho]
       rw [x1]
       rfl)

theorem ad_add (e : Env) (id off k : Nat) : (e.ad id off).add k = e.ad id (off + k) := by
  unfold Env.ad Addr.add
  split
  · rename_i h; subst h; rfl
  · simp [Nat.add_assoc]
def Sn.add : Sn → Nat → Option Sn
  | .lit n, k => some (.lit (n + k))
  | .opq n, k => some (.opq (n + k))
  | .nam c, 0 => some (.nam c)
  | .nam _, _ + 1 => none
theorem Sn.add_den {x y : Sn} {k : Nat} (h : x.add k = some y) : (∀ e, y.den e = x.den e + k) ∧ ∀ s, x.sc s → y.sc s := by
  cases x with
  | lit n => obtain rfl := Option.some.inj h; exact ⟨fun _ => rfl, fun _ _ => trivial⟩
  | opq n => obtain rfl := Option.some.inj h; exact ⟨fun _ => rfl, fun _ _ => trivial⟩
  | nam c => cases k with
    | zero => obtain rfl := Option.some.inj h; exact ⟨fun _ => rfl, fun _ hs => hs⟩
    | succ k => cases h
def ptrAt (id : Nat) (off : Sn) (k : Nat) : Tree OpE := match off.add k with
  | some o => valT (.one (.ptr id o))
  | none => .fail
theorem ptrAt_ok {id k : Nat} {off : Sn} (h : ∀ (s : Sto) (e : Env) (a : Act) (w : World), (∀ x ∈ o.op.operands, Sees σ s e a x) → (execOp a.eval o).run P w = .ok (.value (.pointer (some ((e.ad id (off.den e)).add k)))) w ∧ kn s id ∧ off.sc s) : TreeOk P σ o (ptrAt id off k) := by
  unfold ptrAt
  split
  · rename_i o' ho'
    obtain ⟨d, sc⟩ := Sn.add_den ho'
    refine TreeOk.val fun s e a w hh => ?_
    obtain ⟨h1, h2, h3⟩ := h s e a w hh
    refine ⟨?_, h2, sc s h3⟩
    rw [h1, ad_add]
    simp only [Sv.den, Cv.den, d e]
  · exact TreeOk.fail

def fieldOf (tb : Tb) (t f : Nat) : Option (Field × TypeInfo) := match tb.und t with
  | some (.struct fs) => match fs.toList[f]? with
    | some fd => (tb.info fd.type).map fun i => (fd, i)
    | none => none
  | _ => none
theorem fieldOf_ok {t f : Nat} {fd : Field} {i : TypeInfo} (h : fieldOf tb t f = some (fd, i)) : ∃ fs, tb.und t = some (.struct fs) ∧ fs[f]? = some fd ∧ tb.info fd.type = some i := by
  unfold fieldOf at h
  split at h
  · rename_i fs hfs
    split at h
    · rename_i fd' hfd
      obtain ⟨i', hi', he⟩ := Option.map_eq_some_iff.1 h
      obtain ⟨rfl, rfl⟩ := Prod.mk.inj he
      exact ⟨fs, hfs, by rw [← Array.getElem?_toList]; exact hfd, hi'⟩
    · cases h
  · cases h
def fieldAddrS (tb : Tb) (t : TypeId) (v : Sv) (f : Nat) : Tree OpE := match v, fieldOf tb t f with
  | .one (.ptr id off), some (fd, i) => match i.size with
    | 0 => .fail
    | _ + 1 => ptrAt id off fd.offset
  | _, _ => .fail
theorem fieldAddrS_ok (hT : TbOk P tb) {t : TypeId} {x : Operand} {f : Nat} {v : Sv} (ho : o.op = .fieldAddr t x f) (hx : evO σ x = some v) : TreeOk P σ o (fieldAddrS tb t v f) := by
  unfold fieldAddrS
  split
  · rename_i id off fd i hf
    obtain ⟨fs, h1, h2, h3⟩ := fieldOf_ok hf
    split
    · exact TreeOk.fail
    · rename_i n hn
      refine ptrAt_ok fun s e a w hh => ?_
      obtain ⟨x1, x2⟩ := hh x (by rw [ho]; simp [Op.operands]) _ hx
      refine ⟨?_, x2.1, x2.2⟩
      unfold execOp
      simp only [ho]
      rw [x1]
      refine runV ?_
      simp only [Instr.fieldAt, Sem.run_bind, run_und hT h1, Result.andThen_ok, h2, Sv.den, Cv.den, Instr.sureAddr, Sem.run_pure, fieldPlace, run_size hT h3, hn]
      rfl
  · exact TreeOk.fail

/-- A part of a list of cells. -/
def partL (tb : Tb) (t : TypeId) (i : TypeInfo) (cs : List Cv) (off : Nat) : Option Sv := match tb.agg t with
  | some true => some (.agg ((cs.drop off).take i.size))
  | some false => (cs[off]?).map .one
  | none => none
theorem densA_part (e : Env) (cs : List Cv) (off n : Nat) : densA e ((cs.drop off).take n) = (densA e cs).extract off (off + n) := by
  unfold densA
  apply Array.ext'
  simp [List.map_take, List.map_drop]
theorem partL_run (hT : TbOk P tb) {t : TypeId} {i : TypeInfo} (hi : tb.info t = some i) {cs : List Cv} {off : Nat} {v : Sv} (h : partL tb t i cs off = some v) (e : Env) (w : World) :
    (part t (densA e cs) off).run P w = .ok (v.den e) w ∧ ∀ s, scs s cs → v.sc s := by
  unfold partL at h
  split at h
  · rename_i ha
    obtain rfl := Option.some.inj h
    refine ⟨?_, fun s hs c hc => hs c (List.mem_of_mem_drop (List.mem_of_mem_take hc))⟩
    simp only [part, Sem.run_bind, run_agg hT ha, Result.andThen_ok, if_true, run_size hT hi, Sem.run_pure, Sv.den]
    rw [densA_part]
  · rename_i ha
    obtain ⟨c, hc, rfl⟩ := Option.map_eq_some_iff.1 h
    refine ⟨?_, fun s hs => hs c (List.mem_of_getElem? hc)⟩
    have : (densA e cs)[off]? = some (c.den e) := by simp [densA, hc]
    simp only [part, Sem.run_bind, run_agg hT ha, Result.andThen_ok, Bool.false_eq_true, if_false, this]
    rfl
  · cases h
def fieldS (tb : Tb) (t : TypeId) (v : Sv) (f : Nat) : Tree OpE := match v, fieldOf tb t f with
  | .agg cs, some (fd, i) => optT ((partL tb fd.type i cs fd.offset).map valT)
  | _, _ => .fail
theorem fieldS_ok (hT : TbOk P tb) {t : TypeId} {x : Operand} {f : Nat} {v : Sv} (ho : o.op = .field t x f) (hx : evO σ x = some v) : TreeOk P σ o (fieldS tb t v f) := by
  unfold fieldS
  split
  · rename_i cs fd i hf
    obtain ⟨fs, h1, h2, h3⟩ := fieldOf_ok hf
    refine TreeOk.opt fun u hu => ?_
    obtain ⟨z, hz, rfl⟩ := Option.map_eq_some_iff.1 hu
    refine TreeOk.val fun s e a w hh => ?_
    obtain ⟨x1, x2⟩ := hh x (by rw [ho]; simp [Op.operands]) _ hx
    obtain ⟨r, sc⟩ := partL_run hT h3 hz e w
    refine ⟨?_, sc s x2⟩
    unfold execOp
    simp only [ho]
    rw [x1]
    refine runV ?_
    simp only [Instr.field, Sem.run_bind, run_und hT h1, Result.andThen_ok, h2]
    show ((part fd.type (densA e cs) fd.offset)).run P w = _
    exact r
  · exact TreeOk.fail

/-! elements -/
/-- An index below n that is not written out: each one apart. -/
def splitT {α : Type} (i : Int) (g : Nat → Tree α) : Nat → Tree α
  | 0 => .fail
  | 1 => g 0
  | n + 1 => .br (decide (i = (n : Int))) (g n) (splitT i g n)
theorem splitT_ok {i : Int} {g : Nat → Tree OpE} : ∀ n : Nat, 0 ≤ i → i < n → (∀ j, j < n → i = j → TreeOk P σ o (g j)) → TreeOk P σ o (splitT i g n)
  | 0, h0, h1, _ => by omega
  | 1, h0, h1, h => h 0 (by omega) (by omega)
  | n + 2, h0, h1, h => by
    refine TreeOk.br (fun hb => h (n + 1) (by omega) (by simpa using hb)) (fun hb => splitT_ok (n + 1) h0 ?_ fun j hj he => h j (by omega) he)
    have : i ≠ ((n + 1 : Nat) : Int) := by simpa using hb
    omega
/-- The element at an index: written out; or below a length that is written out; or any. -/
def elemT (i : Int) (l : Bool) (n : Sn) (lit : Nat → Tree OpE) (any : Option (Nat → Tree OpE)) : Tree OpE := match n with
  | .lit n => match l with
    | true => match decide (0 ≤ i ∧ i < n) with
      | true => lit i.toNat
      | false => .fail
    | false => match any with
      | some g => .must (decide (0 ≤ i ∧ i < n)) (g i.toNat)
      | none => .must (decide (0 ≤ i ∧ i < n)) (splitT i lit n)
  | .opq n => match any with
    | some g => .must (decide (0 ≤ i ∧ i < n)) (g i.toNat)
    | none => .fail
  | .nam _ => .fail
theorem elemT_ok {i : Int} {l : Bool} {n : Sn} {lit : Nat → Tree OpE} {any : Option (Nat → Tree OpE)}
    (hl : ∀ j m, n = .lit m ∨ n = .opq m → j < m → i = j → TreeOk P σ o (lit j)) (ha : ∀ g, any = some g → ∀ j m, n = .lit m ∨ n = .opq m → j < m → i = j → TreeOk P σ o (g j)) : TreeOk P σ o (elemT i l n lit any) := by
  cases n with
  | lit m =>
    cases l with
    | true =>
      simp only [elemT]
      split
      · rename_i hb
        have hb' : 0 ≤ i ∧ i < m := by simpa using hb
        exact hl i.toNat m (Or.inl rfl) (by omega) (by omega)
      · exact TreeOk.fail
    | false =>
      simp only [elemT]
      cases any with
      | some g =>
        refine TreeOk.must fun hb => ?_
        have hb' : 0 ≤ i ∧ i < m := by simpa using hb
        exact ha g rfl i.toNat m (Or.inl rfl) (by omega) (by omega)
      | none =>
        refine TreeOk.must fun hb => ?_
        have hb' : 0 ≤ i ∧ i < m := by simpa using hb
        exact splitT_ok m hb'.1 hb'.2 fun j hj he => hl j m (Or.inl rfl) hj he
  | opq m =>
    simp only [elemT]
    cases any with
    | some g =>
      refine TreeOk.must fun hb => ?_
      have hb' : 0 ≤ i ∧ i < m := by simpa using hb
      exact ha g rfl i.toNat m (Or.inr rfl) (by omega) (by omega)
    | none => exact TreeOk.fail
  | nam c => exact TreeOk.fail
def Sn.addq : Sn → Nat → Option Sn
  | .lit n, k => some (.opq (n + k))
  | .opq n, k => some (.opq (n + k))
  | .nam _, _ => none
theorem Sn.addq_den {x y : Sn} {k : Nat} (h : x.addq k = some y) : (∀ e, y.den e = x.den e + k) ∧ ∀ s, y.sc s := by
  cases x with
  | lit n => obtain rfl := Option.some.inj h; exact ⟨fun _ => rfl, fun _ => trivial⟩
  | opq n => obtain rfl := Option.some.inj h; exact ⟨fun _ => rfl, fun _ => trivial⟩
  | nam c => cases h
def ptrAtQ (id : Nat) (off : Sn) (k : Nat) : Tree OpE := match off.addq k with
  | some o => valT (.one (.ptr id o))
  | none => .fail
theorem ptrAtQ_ok {id k : Nat} {off : Sn} (h : ∀ (s : Sto) (e : Env) (a : Act) (w : World), (∀ x ∈ o.op.operands, Sees σ s e a x) → (execOp a.eval o).run P w = .ok (.value (.pointer (some ((e.ad id (off.den e)).add k)))) w ∧ kn s id ∧ off.sc s) : TreeOk P σ o (ptrAtQ id off k) := by
  unfold ptrAtQ
  split
  · rename_i o' ho'
    obtain ⟨d, sc⟩ := Sn.addq_den ho'
    refine TreeOk.val fun s e a w hh => ?_
    obtain ⟨h1, h2, h3⟩ := h s e a w hh
    refine ⟨?_, h2, sc s⟩
    rw [h1, ad_add]
    simp only [Sv.den, Cv.den, d e]
  · exact TreeOk.fail
/-- Is the block told by a function? -/
def isOq (σ : St) (id : Nat) : Bool := match alook σ.bk id with
  | some (.oq _ _ _ _ _) => true
  | _ => false
def indexAddrS (tb : Tb) (σ : St) (t : TypeId) (v vi : Sv) : Tree OpE := match tb.und t, v, vi with
  | some (.array n el), .one (.ptr id off), .one (.i _ i l) => match tb.info el with
    | some ti => elemT i l (.lit n) (fun j => ptrAt id off (j * ti.size)) (bif isOq σ id then some (fun j => ptrAtQ id off (j * ti.size)) else none)
    | none => .fail
  | some (.slice el), .one (.slc id off len _), .one (.i _ i l) => match tb.info el with
    | some ti => elemT i l len (fun j => ptrAt id off (j * ti.size)) (bif isOq σ id then some (fun j => ptrAtQ id off (j * ti.size)) else none)
    | none => .fail
  | _, _, _ => .fail
theorem indexAddrS_ok (hT : TbOk P tb) {t : TypeId} {x ix : Operand} {v vi : Sv} (ho : o.op = .indexAddr t x ix) (hx : evO σ x = some v) (hi : evO σ ix = some vi) : TreeOk P σ o (indexAddrS tb σ t v vi) := by
  unfold indexAddrS
  split
  · rename_i n el id off k i l hu
    split
    · rename_i ti hti
      have run : ∀ (j : Nat), j < n → i = j → ∀ (s : Sto) (e : Env) (a : Act) (w : World), (∀ x ∈ o.op.operands, Sees σ s e a x) → (execOp a.eval o).run P w = .ok (.value (.pointer (some ((e.ad id (off.den e)).add (j * ti.size))))) w ∧ kn s id ∧ off.sc s := by
        intro j hj he s e a w hh
        obtain ⟨x1, x2⟩ := hh x (by rw [ho]; simp [Op.operands]) _ hx
        obtain ⟨i1, _⟩ := hh ix (by rw [ho]; simp [Op.operands]) _ hi
        refine ⟨?_, x2.1, x2.2⟩
        unfold execOp
        simp only [ho]
        rw [x1, i1]
        refine runV ?_
        subst he
        simp only [Instr.indexAt, Sem.run_bind, Sv.den, Cv.den, asIntOf, Sem.run_pure, Result.andThen_ok, run_und hT hu, Instr.sureAddr]
        rw [if_pos ⟨by omega, by omega⟩, Sem.run_bind, run_size hT hti]
        rfl
      refine elemT_ok ?_ ?_
      · rintro j m (hm | hm) hj he
        · obtain rfl : n = m := by simpa using hm
          exact ptrAt_ok (run j hj he)
        · cases hm
      · intro g hg j m hm hj he
        have hmn : n = m := by rcases hm with hm | hm
                               · simpa using hm
                               · cases hm
        subst hmn
        cases hq : isOq σ id with
        | true => rw [hq] at hg; obtain rfl := Option.some.inj hg; exact ptrAtQ_ok (run j hj he)
        | false => rw [hq] at hg; cases hg
    · exact TreeOk.fail
  · rename_i el id off len cap k i l hu
    split
    · rename_i ti hti
      have run : ∀ (j m : Nat), (len = .lit m ∨ len = .opq m) → j < m → i = j → ∀ (s : Sto) (e : Env) (a : Act) (w : World), (∀ x ∈ o.op.operands, Sees σ s e a x) → (execOp a.eval o).run P w = .ok (.value (.pointer (some ((e.ad id (off.den e)).add (j * ti.size))))) w ∧ kn s id ∧ off.sc s := by
        intro j m hm hj he s e a w hh
        obtain ⟨x1, x2⟩ := hh x (by rw [ho]; simp [Op.operands]) _ hx
        obtain ⟨i1, _⟩ := hh ix (by rw [ho]; simp [Op.operands]) _ hi
        refine ⟨?_, x2.1, x2.2.1⟩
        have hd : len.den e = m := by rcases hm with rfl | rfl <;> rfl
        unfold execOp
        simp only [ho]
        rw [x1, i1]
        refine runV ?_
        subst he
        simp only [Instr.indexAt, Sem.run_bind, Sv.den, Cv.den, asIntOf, Sem.run_pure, Result.andThen_ok, run_und hT hu]
        rw [if_pos ⟨by omega, by omega⟩, Sem.run_bind, run_size hT hti]
        rfl
      refine elemT_ok (fun j m hm hj he => ptrAt_ok (run j m hm hj he)) ?_
      intro g hg j m hm hj he
      cases hq : isOq σ id with
      | true => rw [hq] at hg; obtain rfl := Option.some.inj hg; exact ptrAtQ_ok (run j m hm hj he)
      | false => rw [hq] at hg; cases hg
    · exact TreeOk.fail
  · exact TreeOk.fail
def indexS (tb : Tb) (t : TypeId) (v vi : Sv) : Tree OpE := match tb.und t, v, vi with
  | some (.array n el), .agg cs, .one (.i _ i l) => match tb.info el with
    | some ti => elemT i l (.lit n) (fun j => optT ((partL tb el ti cs (j * ti.size)).map valT)) none
    | none => .fail
  | some .string, .one (.s x lx), .one (.i _ i l) => mustL (l && lx) (decide (0 ≤ i ∧ i < x.size)) (valT (.one (.i .u8 (x.data.getD i.toNat 0).toNat (l && lx))))
  | _, _, _ => .fail
theorem indexS_ok (hT : TbOk P tb) {t : TypeId} {x ix : Operand} {v vi : Sv} (ho : o.op = .index t x ix) (hx : evO σ x = some v) (hi : evO σ ix = some vi) : TreeOk P σ o (indexS tb t v vi) := by
  unfold indexS
  split
  · rename_i n el cs k i l hu
    split
    · rename_i ti hti
      refine elemT_ok ?_ (fun g hg => by cases hg)
      rintro j m (hm | hm) hj he
      · obtain rfl : n = m := by simpa using hm
        refine TreeOk.opt fun u hu' => ?_
        obtain ⟨z, hz, rfl⟩ := Option.map_eq_some_iff.1 hu'
        refine TreeOk.val fun s e a w hh => ?_
        obtain ⟨x1, x2⟩ := hh x (by rw [ho]; simp [Op.operands]) _ hx
        obtain ⟨i1, _⟩ := hh ix (by rw [ho]; simp [Op.operands]) _ hi
        obtain ⟨r, sc⟩ := partL_run hT hti hz e w
        refine ⟨?_, sc s x2⟩
        unfold execOp
        simp only [ho]
        rw [x1, i1]
        refine runV ?_
        subst he
        simp only [Instr.index, Sem.run_bind, Sv.den, Cv.den, asIntOf, Sem.run_pure, Result.andThen_ok, run_und hT hu]
        rw [if_pos ⟨by omega, by omega⟩, Sem.run_bind, run_size hT hti, Result.andThen_ok]
        exact r
      · cases hm
    · exact TreeOk.fail
  · rename_i u lx k i l hu
    refine TreeOk.mustL fun hb => ?_
    have hb' : 0 ≤ i ∧ i < u.size := by simpa using hb
    refine TreeOk.val fun s e a w hh => ⟨?_, trivial⟩
    obtain ⟨x1, _⟩ := hh x (by rw [ho]; simp [Op.operands]) _ hx
    obtain ⟨i1, _⟩ := hh ix (by rw [ho]; simp [Op.operands]) _ hi
    unfold execOp
    simp only [ho]
    rw [x1, i1]
    refine runV ?_
    have hlt : i.toNat < u.size := by omega
    have hg : u[i.toNat]? = some (u.data.getD i.toNat 0) := by
      rw [getElem?_pos u i.toNat hlt]
      have h2 : i.toNat < u.data.size := hlt
      simp only [Array.getD, dif_pos h2]
      rfl
    simp only [Instr.index, Sem.run_bind, Sv.den, Cv.den, asIntOf, Sem.run_pure, Result.andThen_ok, run_und hT hu, if_pos hb'.1, hg]
  · exact TreeOk.fail

/-! len, cap, min, max -/
def lenS (tb : Tb) (t : TypeId) (v : Sv) : Tree OpE := match tb.und t, v with
  | some (.slice _), .one (.slc _ _ (.lit n) _) => valT (.one (.i .i64 n true))
  | some (.slice _), .one (.slc _ _ (.opq n) _) => valT (.one (.i .i64 n false))
  | some (.slice _), .one (.val (.slice _ n _)) => valT (.one (.i .i64 n true))
  | some .string, .one (.s x l) => valT (.one (.i .i64 x.size l))
  | some (.array n _), _ => valT (.one (.i .i64 n true))
  | _, _ => .fail
def callB (o : Oper) : Option (Builtin × List Operand × List TypeId) := match o.op with
  | .call { callee := .builtin b, args, argTypes } => some (b, args.toList, argTypes.toList)
  | _ => none
theorem run_builtin {b : Builtin} {args : Array Operand} {ts : Array TypeId} {a : Act} {w : World} (ho : o.op = .call { callee := .builtin b, args := args, argTypes := ts }) :
    (execOp a.eval o).run P w = (builtin b ts o.type (args.map fun | .const _ => true | _ => false) (args.map a.eval)).run P w := by
  unfold execOp
  simp only [ho]
  rfl
theorem lenS_ok (hT : TbOk P tb) {x : Operand} {t : TypeId} {v : Sv} (ho : o.op = .call { callee := .builtin .len, args := #[x], argTypes := #[t] }) (hx : evO σ x = some v) : TreeOk P σ o (lenS tb t v) := by
  have go : ∀ {n : Int} {l : Bool}, (∀ (e : Env) (w : World), (Builtin.len_ #[t] o.type #[v.den e]).run P w = .ok (.int .i64 n) w) → TreeOk P σ o (valT (.one (.i .i64 n l))) := by
    intro n l h
    refine TreeOk.val fun s e a w hh => ⟨?_, trivial⟩
    obtain ⟨x1, _⟩ := hh x (by rw [ho]; simp [Op.operands, Call.operands]) _ hx
    rw [run_builtin ho]
    simp only [List.map_toArray, List.map_cons, List.map_nil, x1]
    exact runV (h e w)
  unfold lenS
  split
  · rename_i el id off n cap hu
    exact go fun e w => by simp [Builtin.len_, run_und hT hu, Sv.den, Cv.den, Sn.den, goInt]
  · rename_i el id off n cap hu
    exact go fun e w => by simp [Builtin.len_, run_und hT hu, Sv.den, Cv.den, Sn.den, goInt]
  · rename_i el q n c hu
    exact go fun e w => by simp [Builtin.len_, run_und hT hu, Sv.den, Cv.den, goInt]
  · rename_i u l hu
    exact go fun e w => by simp [Builtin.len_, run_und hT hu, Sv.den, Cv.den, goInt]
  · rename_i n el v' hu
    exact go fun e w => by simp [Builtin.len_, run_und hT hu, goInt]
  · exact TreeOk.fail
def mm (mx : Bool) (x y : Int) : Int := bif mx then (if y > x then y else x) else (if y < x then y else x)
def mmS (mx : Bool) (vx vy : Sv) : Tree OpE := match vx, vy with
  | .one (.i k x lx), .one (.i k' y ly) => if k = k' then valT (.one (.i k (mm mx x y) (lx && ly))) else .fail
  | _, _ => .fail
theorem mmS_ok {mx : Bool} {x y : Operand} {ts : Array TypeId} {vx vy : Sv} (ho : o.op = .call { callee := .builtin (if mx = true then .max else .min), args := #[x, y], argTypes := ts }) (hx : evO σ x = some vx) (hy : evO σ y = some vy) : TreeOk P σ o (mmS mx vx vy) := by
  unfold mmS
  split
  · rename_i k n lx k' m ly
    split
    · rename_i hk; subst hk
      refine TreeOk.val fun s e a w hh => ⟨?_, trivial⟩
      obtain ⟨x1, _⟩ := hh x (by rw [ho]; simp [Op.operands, Call.operands]) _ hx
      obtain ⟨y1, _⟩ := hh y (by rw [ho]; simp [Op.operands, Call.operands]) _ hy
      rw [run_builtin ho]
      simp only [List.map_toArray, List.map_cons, List.map_nil, x1, y1, Sv.den, Cv.den]
      cases mx <;> rfl
    · exact TreeOk.fail
  · exact TreeOk.fail

/-! a slice of a slice, of an array -/
def bndX (σ : St) (x : Operand) : Option Nat := match evO σ x with
  | some (.one (.i _ n true)) => match decide (0 ≤ n) with
    | true => some n.toNat
    | false => none
  | _ => none
def bnd (σ : St) : Option Operand → Option (Option Nat)
  | none => some none
  | some x => (bndX σ x).map some
theorem bnd_some {y : Operand} {n : Nat} (h : bndX σ y = some n) : ∃ k, evO σ y = some (.one (.i k (n : Int) true)) := by
  unfold bndX at h
  split at h
  · rename_i k m hm
    split at h
    · rename_i hb
      have hb' : 0 ≤ m := by simpa using hb
      obtain rfl := Option.some.inj h
      exact ⟨k, by rw [Int.toNat_of_nonneg hb']; exact hm⟩
    · cases h
  · cases h
def lo0 : Option Nat → Nat
  | some n => n
  | none => 0
/-- A bound of a slice: it is not given; or it is the number l. -/
def BndIs (σ : St) : Option Operand → Option Nat → Prop
  | none, none => True
  | some x, some n => ∃ k b, evO σ x = some (.one (.i k (n : Int) b))
  | _, _ => False
def bndT (σ : St) (x : Option Operand) (m : Option Nat) (g : Option Nat → Tree OpE) : Tree OpE := match x with
  | none => g none
  | some x => match evO σ x with
    | some (.one (.i _ n true)) => match decide (0 ≤ n) with
      | true => g (some n.toNat)
      | false => .fail
    | some (.one (.i _ n false)) => match m with
      | some m => .must (decide (0 ≤ n ∧ n ≤ m)) (splitT n (fun j => g (some j)) (m + 1))
      | none => .must (decide (0 ≤ n)) (g (some n.toNat))
    | _ => .fail
theorem bndT_ok {x : Option Operand} {m : Option Nat} {g : Option Nat → Tree OpE} (h : ∀ l, BndIs σ x l → TreeOk P σ o (g l)) : TreeOk P σ o (bndT σ x m g) := by
  unfold bndT
  split
  · exact h none trivial
  · rename_i x
    split
    · rename_i k n hn
      split
      · rename_i hb
        have hb' : 0 ≤ n := by simpa using hb
        exact h _ ⟨k, true, by rw [Int.toNat_of_nonneg hb']; exact hn⟩
      · exact TreeOk.fail
    · rename_i k n hn
      split
      · rename_i m
        refine TreeOk.must fun hb => ?_
        have hb' : 0 ≤ n ∧ n ≤ m := by simpa using hb
        exact splitT_ok (m + 1) hb'.1 (by omega) fun j _ hj => h _ ⟨k, false, by rw [hn, hj]⟩
      · refine TreeOk.must fun hb => ?_
        have hb' : 0 ≤ n := by simpa using hb
        exact h _ ⟨k, false, by rw [Int.toNat_of_nonneg hb']; exact hn⟩
    · exact TreeOk.fail
def lenB (tb : Tb) (t : TypeId) (v : Sv) : Option Nat := match tb.und t, v with
  | some (.array n _), _ => some n
  | some (.slice _), .one (.slc _ _ (.lit n) _) => some n
  | some .string, _ => none
  | _, _ => some 0
def sliceC (tb : Tb) (t : TypeId) (v : Sv) (l h : Option Nat) : Tree OpE := match tb.und t, v with
  | some (.array n el), .one (.ptr id off) => match tb.info el with
    | some ti => match decide (lo0 l ≤ h.getD n ∧ h.getD n ≤ n) with
      | true => match decide (n = lo0 l) with
        | true => valT (.one (.slc id off (.lit (h.getD n - lo0 l)) (.lit 0)))
        | false => match off.add (lo0 l * ti.size) with
          | some o => valT (.one (.slc id o (.lit (h.getD n - lo0 l)) (.lit (n - lo0 l))))
          | none => .fail
      | false => .fail
    | none => .fail
  | some (.slice el), .one (.slc id off (.lit n) cap) => match tb.info el with
    | some ti => match decide (lo0 l ≤ h.getD n ∧ h.getD n ≤ n) with
      | true => match cap with
        | .lit c => match decide (h.getD n ≤ c) with
          | true => match decide (c = lo0 l) with
            | true => valT (.one (.slc id off (.lit (h.getD n - lo0 l)) (.lit 0)))
            | false => match off.add (lo0 l * ti.size) with
              | some o => valT (.one (.slc id o (.lit (h.getD n - lo0 l)) (.lit (c - lo0 l))))
              | none => .fail
          | false => .fail
        | _ => .fail
      | false => .fail
    | none => .fail
  | some .string, .one (.s x lx) => .must (decide (lo0 l ≤ h.getD x.size ∧ h.getD x.size ≤ x.size)) (valT (.one (.s (x.extract (lo0 l) (h.getD x.size)) lx)))
  | some (.slice el), .one (.val (.slice none 0 0)) => match tb.info el, decide (lo0 l = 0 ∧ h.getD 0 = 0) with
    | some _, true => valT v
    | _, _ => .fail
  | _, _ => .fail
def sliceS (tb : Tb) (σ : St) (t : TypeId) (v : Sv) (lo hi mx : Option Operand) : Tree OpE := match mx with
  | none => bndT σ lo (lenB tb t v) fun l => bndT σ hi (lenB tb t v) fun h => sliceC tb t v l h
  | some _ => .fail
theorem bnds_run {lo hi : Option Operand} {l h : Option Nat} (hl : BndIs σ lo l) (hh : BndIs σ hi h) {s : Sto} {e : Env} {a : Act} (hs : ∀ x, (lo = some x ∨ hi = some x) → Sees σ s e a x) (b : Bool) (len cap : Nat) (h1 : lo0 l ≤ h.getD len) (h2 : h.getD len ≤ cap) (w : World) :
    (Instr.sliceBounds b len cap (lo.map a.eval) (hi.map a.eval) none).run P w = .ok (lo0 l, h.getD len, cap) w := by
  have kl : ∀ x, lo = some x → ∃ k, a.eval x = .int k (lo0 l) := by
    intro x hx
    subst hx
    cases l with
    | none => exact hl.elim
    | some n =>
      obtain ⟨k, b, hk⟩ := hl
      exact ⟨k, (hs x (Or.inl rfl) _ hk).1⟩
  have kh : ∀ x, hi = some x → ∃ k, a.eval x = .int k (h.getD len) := by
    intro x hx
    subst hx
    cases h with
    | none => exact hh.elim
    | some n =>
      obtain ⟨k, b, hk⟩ := hh
      exact ⟨k, (hs x (Or.inr rfl) _ hk).1⟩
  have nl : lo = none → lo0 l = 0 := by
    intro hx; subst hx
    cases l with
    | none => rfl
    | some n => exact hl.elim
  have nh : hi = none → h.getD len = len := by
    intro hx; subst hx
    cases h with
    | none => rfl
    | some n => exact hh.elim
  clear hl hh hs
  generalize lo0 l = L at *
  generalize h.getD len = H at *
  cases lo with
  | none =>
    obtain rfl := nl rfl
    cases hi with
    | none => obtain rfl := nh rfl; simp [Instr.sliceBounds]
    | some y =>
      obtain ⟨k, hk⟩ := kh y rfl
      simp [Instr.sliceBounds, hk, run_sliceBound _ _ _ _ _ (Int.natCast_nonneg H) (show (H : Int) ≤ (cap : Nat) by omega)]
  | some x =>
    obtain ⟨k, hk⟩ := kl x rfl
    cases hi with
    | none =>
      obtain rfl := nh rfl
      simp [Instr.sliceBounds, hk, run_sliceBound _ _ _ _ _ (Int.natCast_nonneg L) (show (L : Int) ≤ (H : Nat) by omega)]
    | some y =>
      obtain ⟨k', hk'⟩ := kh y rfl
      simp [Instr.sliceBounds, hk, hk', run_sliceBound _ _ _ _ _ (Int.natCast_nonneg L) (show (L : Int) ≤ (H : Nat) by omega), run_sliceBound _ _ _ _ _ (Int.natCast_nonneg H) (show (H : Int) ≤ (cap : Nat) by omega)]
theorem sliceC_ok (hT : TbOk P tb) {t : TypeId} {x : Operand} {lo hi : Option Operand} {v : Sv} (ho : o.op = .slice t x lo hi none) (hx : evO σ x = some v) {l h : Option Nat} (hl : BndIs σ lo l) (hh : BndIs σ hi h) : TreeOk P σ o (sliceC tb t v l h) := by
  have sees : ∀ {s : Sto} {e : Env} {a : Act}, (∀ x ∈ o.op.operands, Sees σ s e a x) → ∀ y, (lo = some y ∨ hi = some y) → Sees σ s e a y := by
    intro s e a hh y hy
    refine hh y ?_
    rw [ho]
    rcases hy with rfl | rfl <;> simp [Op.operands]
  unfold sliceC
  split
  · rename_i n el id off hu
    split
    · rename_i ti hti
      split
      · rename_i hb
        have hb' : lo0 l ≤ h.getD n ∧ h.getD n ≤ n := by simpa using hb
        have run : ∀ (s : Sto) (e : Env) (a : Act) (w : World), (∀ x ∈ o.op.operands, Sees σ s e a x) → (execOp a.eval o).run P w = .ok (.value (.slice (some (if n = lo0 l then e.ad id (off.den e) else (e.ad id (off.den e)).add (lo0 l * ti.size))) (h.getD n - lo0 l) (n - lo0 l))) w ∧ kn s id ∧ off.sc s := by
          intro s e a w hs
          obtain ⟨x1, x2⟩ := hs x (by rw [ho]; simp [Op.operands]) _ hx
          refine ⟨?_, x2.1, x2.2⟩
          unfold execOp
          simp only [ho]
          rw [x1]
          refine runV ?_
          simp only [Instr.sliceAt, Sem.run_bind, run_und hT hu, Result.andThen_ok, Sv.den, Cv.den, Instr.sureAddr, Sem.run_pure, Option.map_none]
          rw [bnds_run hl hh (sees hs) false n n hb'.1 hb'.2]
          simp only [Result.andThen_ok, run_size hT hti]
        split
        · rename_i hc
          have hc' : n = lo0 l := by simpa using hc
          refine TreeOk.val fun s e a w hs => ?_
          obtain ⟨r, k1, k2⟩ := run s e a w hs
          refine ⟨?_, k1, k2, trivial, trivial⟩
          rw [r, if_pos hc']
          simp only [Sv.den, Cv.den, Sn.den]
          rw [show n - lo0 l = 0 by omega]
        · rename_i hc
          have hc' : ¬ n = lo0 l := by simpa using hc
          split
          · rename_i o' ho'
            obtain ⟨d, sc⟩ := Sn.add_den ho'
            refine TreeOk.val fun s e a w hs => ?_
            obtain ⟨r, k1, k2⟩ := run s e a w hs
            refine ⟨?_, k1, sc s k2, trivial, trivial⟩
            rw [r, if_neg hc', ad_add, ← d e]
            rfl
          · exact TreeOk.fail
      · exact TreeOk.fail
    · exact TreeOk.fail
  · rename_i el id off n cap hu
    split
    · rename_i ti hti
      split
      · rename_i hb
        have hb' : lo0 l ≤ h.getD n ∧ h.getD n ≤ n := by simpa using hb
        split
        · rename_i c
          split
          · rename_i hcc
            have hcc' : h.getD n ≤ c := by simpa using hcc
            have run : ∀ (s : Sto) (e : Env) (a : Act) (w : World), (∀ x ∈ o.op.operands, Sees σ s e a x) → (execOp a.eval o).run P w = .ok (.value (.slice (if c = lo0 l then some (e.ad id (off.den e)) else some ((e.ad id (off.den e)).add (lo0 l * ti.size))) (h.getD n - lo0 l) (c - lo0 l))) w ∧ kn s id ∧ off.sc s := by
              intro s e a w hs
              obtain ⟨x1, x2⟩ := hs x (by rw [ho]; simp [Op.operands]) _ hx
              refine ⟨?_, x2.1, x2.2.1⟩
              unfold execOp
              simp only [ho]
              rw [x1]
              refine runV ?_
              simp only [Instr.sliceAt, Sem.run_bind, run_und hT hu, Result.andThen_ok, Sv.den, Cv.den, Instr.slice, Sn.den, Option.map_none]
              rw [bnds_run hl hh (sees hs) true n c hb'.1 hcc']
              simp only [Result.andThen_ok, run_size hT hti, Sem.run_pure, Option.map_some]
            split
            · rename_i hc
              have hc' : c = lo0 l := by simpa using hc
              refine TreeOk.val fun s e a w hs => ?_
              obtain ⟨r, k1, k2⟩ := run s e a w hs
              refine ⟨?_, k1, k2, trivial, trivial⟩
              rw [r, if_pos hc']
              simp only [Sv.den, Cv.den, Sn.den]
              rw [show c - lo0 l = 0 by omega]
            · rename_i hc
              have hc' : ¬ c = lo0 l := by simpa using hc
              split
              · rename_i o' ho'
                obtain ⟨d, sc⟩ := Sn.add_den ho'
                refine TreeOk.val fun s e a w hs => ?_
                obtain ⟨r, k1, k2⟩ := run s e a w hs
                refine ⟨?_, k1, sc s k2, trivial, trivial⟩
                rw [r, if_neg hc', ad_add, ← d e]
                rfl
              · exact TreeOk.fail
          · exact TreeOk.fail
        · exact TreeOk.fail
      · exact TreeOk.fail
    · exact TreeOk.fail
  · rename_i u lx hu
    refine TreeOk.must fun hb => ?_
    have hb' : lo0 l ≤ h.getD u.size ∧ h.getD u.size ≤ u.size := by simpa using hb
    refine TreeOk.val fun s e a w hs => ⟨?_, trivial⟩
    obtain ⟨x1, _⟩ := hs x (by rw [ho]; simp [Op.operands]) _ hx
    unfold execOp
    simp only [ho]
    rw [x1]
    refine runV ?_
    simp only [Instr.sliceAt, Sem.run_bind, run_und hT hu, Result.andThen_ok, Sv.den, Cv.den, Instr.slice, Option.map_none, Option.isSome_none, Bool.false_eq_true, if_false, Sem.run_pure]
    rw [bnds_run hl hh (sees hs) false u.size u.size hb'.1 hb'.2]
    rfl
  · -- nothing of nil
    rename_i el hu
    split
    · rename_i ti hti hb
      have hb' : lo0 l = 0 ∧ h.getD 0 = 0 := by simpa using hb
      refine TreeOk.val fun s e a w hs => ⟨?_, trivial⟩
      obtain ⟨x1, _⟩ := hs x (by rw [ho]; simp [Op.operands]) _ hx
      unfold execOp
      simp only [ho]
      rw [x1]
      refine runV ?_
      simp only [Instr.sliceAt, Sem.run_bind, run_und hT hu, Result.andThen_ok, Sv.den, Cv.den, Instr.slice, Option.map_none]
      rw [bnds_run hl hh (sees hs) true 0 0 (by omega) (by omega)]
      obtain ⟨h1, h2⟩ := hb'
      simp [h1, h2, run_size hT hti]
    · exact TreeOk.fail
  · exact TreeOk.fail
theorem sliceS_ok (hT : TbOk P tb) {t : TypeId} {x : Operand} {lo hi mx : Option Operand} {v : Sv} (ho : o.op = .slice t x lo hi mx) (hx : evO σ x = some v) : TreeOk P σ o (sliceS tb σ t v lo hi mx) := by
  unfold sliceS
  split
  · exact bndT_ok fun l hl => bndT_ok fun h hh => sliceC_ok hT ho hx hl hh
  · exact TreeOk.fail
end
end Sx
end Go.Proofs.Ytladkknbkgomfaa

/-
  What each operation comes to: memory.
-/
set_option linter.unusedSimpArgs false
set_option linter.unusedVariables false
namespace Go.Proofs.Ytladkknbkgomfaa
namespace Sx
open Go.RowKit

section
variable {P : Program} {σ : St} {o : Oper} {tb : Tb}

theorem den_ptr (e : Env) (id : Nat) (off : Sn) : Sv.den e (.one (.ptr id off)) = .pointer (some (e.ad id (off.den e))) := rfl
theorem den_agg (e : Env) (cs : List Cv) : Sv.den e (.agg cs) = .agg (densA e cs) := rfl
def Cv.plainB : Cv → Bool
  | .val (.agg _) => false
  | .val (.tuple _) => false
  | _ => true
theorem Cv.plain_cell {c : Cv} (h : c.plainB = true) (e : Env) : (c.den e).oneCell' = true ∧ (c.den e).cells = #[c.den e] := by
  cases c with
  | val v => cases v <;> first | exact ⟨rfl, rfl⟩ | cases h
  | _ => exact ⟨rfl, rfl⟩
/-- The cells of a value. -/
def Sv.cs : Sv → Option (List Cv)
  | .one c => match c.plainB with
    | true => some [c]
    | false => none
  | .agg cs => match cs.all Cv.plainB with
    | true => some cs
    | false => none
  | .tup _ => none
theorem Sv.cs_ok {v : Sv} {cs : List Cv} (h : v.cs = some cs) : (∀ e, (v.den e).cells = densA e cs) ∧ (∀ s, v.sc s → scs s cs) ∧ ∀ c ∈ cs, c.plainB = true := by
  cases v with
  | one c =>
    simp only [Sv.cs] at h
    split at h
    · rename_i hp
      obtain rfl := Option.some.inj h
      refine ⟨fun e => (Cv.plain_cell hp e).2, fun s hs x hx => ?_, fun x hx => ?_⟩
      · obtain rfl : x = c := by simpa using hx
        exact hs
      · obtain rfl : x = c := by simpa using hx
        exact hp
    · cases h
  | agg l =>
    simp only [Sv.cs] at h
    split at h
    · rename_i hp
      obtain rfl := Option.some.inj h
      exact ⟨fun e => rfl, fun s hs => hs, fun c hc => List.all_eq_true.1 hp c hc⟩
    · cases h
  | tup _ => cases h

/-! new blocks -/
def free (σ : St) : Bool := (alook σ.bk σ.nx).isNone
theorem free_look (h : free σ = true) : look σ (.k σ.nx) = none := by
  unfold free at h
  simp only [look]
  rw [show alook σ.bk σ.nx = none by simpa using h]
  simp
def newT (σ : St) (v : Nat → Sv) (b : Blk) : Tree OpE := match free σ with
  | true => .leaf ⟨some (v σ.nx), [.k σ.nx], [.new σ.nx b]⟩
  | false => .fail
theorem newT_ok {v : Nat → Sv} {b : Blk} (h : ∀ (s : Sto) (e : Env) (a : Act) (w : World), (∀ x ∈ o.op.operands, Sees σ s e a x) → ∃ xs, Fits e s xs b ∧ (execOp a.eval o).run P w = .ok (.value ((v σ.nx).den (e.setPl σ.nx (w.heap.size, 0)))) (w.alloc (.cells xs b.info.t)))
    (hv : ∀ s, kn s σ.nx → (v σ.nx).sc s) : TreeOk P σ o (newT σ v b) := by
  unfold newT
  split
  · rename_i hf
    refine TreeOk.leaf fun C e s a w hp hx hl => ?_
    obtain ⟨xs, h1, h2⟩ := h s e a w hx
    have hid : s (.k σ.nx) = none := (hl _ (by simp)).trans (free_look hf)
    obtain ⟨p1, p2⟩ := hp.alloc hid h1
    refine ⟨_, _, _, h2, p2, p1, rfl, hv _ ?_⟩
    show kn ((Wr.new σ.nx b).upd s) σ.nx
    unfold kn
    rw [new_k, if_pos rfl]
    rfl
  · exact TreeOk.fail
theorem fits_ar {e : Env} {s : Sto} {t : TypeId} {cs : List Cv} (h : scs s cs) : Fits e s (densA e cs) (.ar t false cs none) :=
  ⟨h, fun j c hc => by simp [densA, hc], fun c es he => by cases he⟩
def zeroL (tb : Tb) (t : Nat) : Option (List Cv) := (tb.info t).bind fun i => i.zero.map fun v => v.cells.toList.map (Cv.ofL true)
theorem zeroL_run (hT : TbOk P tb) {t : Nat} {zs : List Cv} (h : zeroL tb t = some zs) (w : World) : ∃ v, (zeroValue t).run P w = .ok v w ∧ (∀ e, v.cells = densA e zs) ∧ ∀ s, scs s zs := by
  obtain ⟨i, hi, h2⟩ := Option.bind_eq_some_iff.1 h
  obtain ⟨v, hv, rfl⟩ := Option.map_eq_some_iff.1 h2
  refine ⟨v, run_zero hT hi hv w, fun e => by rw [densA_ofL], fun s c hc => ?_⟩
  obtain ⟨x, _, rfl⟩ := List.mem_map.1 hc
  exact Cv.ofL_sc _ _ _
theorem run_newVar {t : TypeId} {v : Value} (w : World) : (newVar t v).run P w = .ok ⟨w.heap.size, 0, none⟩ (w.alloc (.cells v.cells t)) := rfl
theorem setPl_ad (e : Env) (id n off : Nat) : (e.setPl id (n, 0)).ad id off = ⟨n, off, none⟩ := by simp [Env.setPl, Env.ad]
def allocS (tb : Tb) (σ : St) (t : TypeId) : Tree OpE := match zeroL tb t with
  | some zs => newT σ (fun id => .one (.ptr id (.lit 0))) (.ar t false zs none)
  | none => .fail
theorem allocS_ok (hT : TbOk P tb) {t : TypeId} (ho : o.op = .alloc t) : TreeOk P σ o (allocS tb σ t) := by
  unfold allocS
  split
  · rename_i zs hz
    refine newT_ok (fun s e a w _ => ?_) (fun s hk => ⟨hk, trivial⟩)
    obtain ⟨v, h1, h2, h3⟩ := zeroL_run hT hz w
    refine ⟨densA e zs, fits_ar (h3 s), ?_⟩
    unfold execOp
    simp only [ho]
    refine runV ?_
    simp only [Instr.alloc, Sem.run_bind, h1, Result.andThen_ok, run_newVar, h2 e, Sv.den, Cv.den, Sn.den, setPl_ad]
    rfl
  · exact TreeOk.fail
def boxS (σ : St) (t : TypeId) (v : Sv) : Tree OpE := match v.cs with
  | some cs => newT σ (fun id => .one (.ptr id (.lit 0))) (.ar t false cs none)
  | none => .fail
theorem boxS_ok {t : TypeId} {x : Operand} {v : Sv} (ho : o.op = .box t x) (hx : evO σ x = some v) : TreeOk P σ o (boxS σ t v) := by
  unfold boxS
  split
  · rename_i cs hc
    obtain ⟨c1, c2, _⟩ := Sv.cs_ok hc
    refine newT_ok (fun s e a w hh => ?_) (fun s hk => ⟨hk, trivial⟩)
    obtain ⟨x1, x2⟩ := hh x (by rw [ho]; simp [Op.operands]) _ hx
    refine ⟨densA e cs, fits_ar (c2 s x2), ?_⟩
    unfold execOp
    simp only [ho]
    rw [x1]
    refine runV ?_
    have hb : (Instr.box t (v.den e)).run P w = .ok (.pointer (some ⟨w.heap.size, 0, none⟩)) (w.alloc (.cells (v.den e).cells t)) := rfl
    rw [hb, c1 e]
    show _ = Result.ok (Value.pointer (some ((e.setPl σ.nx (w.heap.size, 0)).ad σ.nx 0))) _
    rw [setPl_ad]
    rfl
  · exact TreeOk.fail

/-! aggregates -/
def spl : List Cv → Nat → List Cv → List Cv
  | l, _, [] => l
  | l, off, c :: cs => spl (lset l off c) (off + 1) cs
theorem spl_den (e : Env) : ∀ (cs l : List Cv) (off k : Nat), densA e (spl l (off + k) cs) = ((densA e cs).toList.zipIdx k).foldl (fun a (c, j) => a.setIfInBounds (off + j) c) (densA e l)
  | [], l, off, k => rfl
  | c :: cs, l, off, k => by
    have ih := spl_den e cs (lset l (off + k) c) off (k + 1)
    rw [show off + (k + 1) = off + k + 1 by omega] at ih
    simp only [spl]
    rw [ih]
    show _ = ((((c :: cs).map (·.den e)).toArray).toList.zipIdx k).foldl _ _
    simp only [List.map_cons, List.zipIdx_cons, List.foldl_cons]
    congr 1
    simp [densA, lset_eq, List.map_set]
theorem spl_length : ∀ (cs l : List Cv) (off : Nat), (spl l off cs).length = l.length
  | [], l, off => rfl
  | c :: cs, l, off => by simp only [spl]; rw [spl_length, lset_eq]; simp
theorem spl_sc {s : Sto} : ∀ {cs l : List Cv} {off : Nat}, scs s cs → scs s l → scs s (spl l off cs)
  | [], l, off, _, h => h
  | c :: cs, l, off, h1, h2 => by
    show scs s (spl (lset l off c) (off + 1) cs)
    refine spl_sc (fun x hx => h1 x (List.mem_cons_of_mem _ hx)) fun x hx => ?_
    rw [lset_eq] at hx
    rcases List.mem_or_eq_of_mem_set hx with hx | rfl
    · exact h2 x hx
    · exact h1 x List.mem_cons_self
def fillL (σ : St) (place : Nat → Option (Nat × Nat)) : List Cv → List (Nat × Operand) → Option (List Cv)
  | l, [] => some l
  | l, (i, x) :: rest => match place i, (evO σ x).bind Sv.cs with
    | some (off, size), some cs => match Nat.beq cs.length size && Nat.ble (off + cs.length) l.length with
      | true => fillL σ place (spl l off cs) rest
      | false => none
    | _, _ => none
theorem fillL_ok {place : Nat → Option (Nat × Nat)} {s : Sto} {e : Env} {a : Act} : ∀ {parts : List (Nat × Operand)} {l r : List Cv}, fillL σ place l parts = some r → (∀ p ∈ parts, Sees σ s e a p.2) → scs s l →
    Instr.fill place (densA e l) (parts.map fun p => (p.1, a.eval p.2)) = some (densA e r) ∧ scs s r ∧ r.length = l.length
  | [], l, r, h, _, hl => by obtain rfl := Option.some.inj h; exact ⟨rfl, hl, rfl⟩
  | (i, x) :: rest, l, r, h, hh, hl => by
    simp only [fillL] at h
    split at h
    · rename_i off size cs hp hc
      split at h
      · rename_i hb
        rw [Bool.and_eq_true, beq_iff', Nat.ble_eq] at hb
        obtain ⟨rfl, hb2⟩ := hb
        obtain ⟨v, hv, hc'⟩ := Option.bind_eq_some_iff.1 hc
        obtain ⟨c1, c2, _⟩ := Sv.cs_ok hc'
        obtain ⟨x1, x2⟩ := hh (i, x) List.mem_cons_self v hv
        obtain ⟨r1, r2, r3⟩ := fillL_ok h (fun p hp => hh p (List.mem_cons_of_mem _ hp)) (spl_sc (c2 s x2) hl)
        refine ⟨?_, r2, r3.trans (spl_length _ _ _)⟩
        simp only [List.map_cons, Instr.fill, hp]
        have hx1 : (a.eval x).cells = densA e cs := by rw [show a.eval x = v.den e from x1, c1 e]
        have hs1 : (densA e cs).size = cs.length := by simp [densA]
        have hs2 : (densA e l).size = l.length := by simp [densA]
        rw [hx1, hs1, hs2]
        have hd := spl_den e cs l off 0
        simp only [Nat.add_zero] at hd
        rw [hd] at r1
        rw [← Array.foldl_toList, Array.toList_zipIdx]
        have hcond : (decide (cs.length ≠ cs.length) || decide (off + cs.length > l.length)) = false := by simp; omega
        rw [if_neg (by rw [hcond]; decide)]
        exact r1
      · cases h
    · cases h
def placesL (tb : Tb) : List Field → Option (List (Nat × Nat))
  | [] => some []
  | f :: fs => match tb.info f.type, placesL tb fs with
    | some i, some ps => some ((f.offset, i.size) :: ps)
    | _, _ => none
theorem placesL_ok (hT : TbOk P tb) : ∀ {fs : List Field} {ps : List (Nat × Nat)}, placesL tb fs = some ps → fs.mapM (fun f => (P.info? f.type).map fun i => (f.offset, i.size)) = some ps
  | [], ps, h => by obtain rfl := Option.some.inj h; rfl
  | f :: fs, ps, h => by
    simp only [placesL] at h
    split at h
    · rename_i i ps' hi hps
      obtain rfl := Option.some.inj h
      simp only [List.mapM_cons, Option.bind_eq_bind, Option.pure_def, hT.info hi, Option.map_some, Option.bind_some, placesL_ok hT hps]
    · cases h
def builtL (tb : Tb) (σ : St) (t : TypeId) (parts : List (Nat × Operand)) : Option (List Cv) := match zeroL tb t, tb.und t with
  | some zs, some (.struct fs) => match placesL tb fs.toList with
    | some ps => fillL σ (fun i => ps[i]?) zs parts
    | none => none
  | some zs, some (.array _ el) => match tb.info el with
    | some ti => fillL σ (fun i => some (i * ti.size, ti.size)) zs parts
    | none => none
  | _, _ => none
theorem builtL_ok (hT : TbOk P tb) {t : TypeId} {parts : Array (Nat × Operand)} {r : List Cv} (h : builtL tb σ t parts.toList = some r) {s : Sto} {e : Env} {a : Act} (hh : ∀ p ∈ parts.toList, Sees σ s e a p.2) (w : World) :
    (Instr.build t (parts.map fun (i, x) => (i, a.eval x))).run P w = .ok (.agg (densA e r)) w ∧ scs s r := by
  have hm : (parts.map fun (i, x) => (i, a.eval x)).toList = parts.toList.map fun p => (p.1, a.eval p.2) := by simp
  unfold builtL at h
  split at h
  · rename_i zs fs hz hu
    split at h
    · rename_i ps hps
      obtain ⟨i, hi, h2⟩ := Option.bind_eq_some_iff.1 hz
      obtain ⟨v, hv, rfl⟩ := Option.map_eq_some_iff.1 h2
      have hzs : scs s (v.cells.toList.map (Cv.ofL true)) := fun c hc => by obtain ⟨x, _, rfl⟩ := List.mem_map.1 hc; exact Cv.ofL_sc _ _ _
      obtain ⟨f1, f2, _⟩ := fillL_ok h hh hzs
      rw [densA_ofL] at f1
      refine ⟨run_build w t _ _ ?_, f2⟩
      unfold Program.built
      rw [hT.info hi, hT.und hu]
      simp only [hv]
      rw [placesL_ok hT hps]
      simp only []
      rw [hm]
      simpa using f1
    · cases h
  · rename_i zs n el hz hu
    split at h
    · rename_i ti hti
      obtain ⟨i, hi, h2⟩ := Option.bind_eq_some_iff.1 hz
      obtain ⟨v, hv, rfl⟩ := Option.map_eq_some_iff.1 h2
      have hzs : scs s (v.cells.toList.map (Cv.ofL true)) := fun c hc => by obtain ⟨x, _, rfl⟩ := List.mem_map.1 hc; exact Cv.ofL_sc _ _ _
      obtain ⟨f1, f2, _⟩ := fillL_ok h hh hzs
      rw [densA_ofL] at f1
      refine ⟨run_build w t _ _ ?_, f2⟩
      unfold Program.built
      rw [hT.info hi, hT.und hu]
      simp only [hv, hT.info hti]
      rw [hm]
      simpa using f1
    · cases h
  · cases h
def buildS (tb : Tb) (σ : St) (t : TypeId) (parts : Array (Nat × Operand)) : Tree OpE := optT ((builtL tb σ t parts.toList).map fun r => valT (.agg r))
theorem buildS_ok (hT : TbOk P tb) {t : TypeId} {parts : Array (Nat × Operand)} (ho : o.op = .build t parts) : TreeOk P σ o (buildS tb σ t parts) := by
  refine TreeOk.opt fun u hu => ?_
  obtain ⟨r, hr, rfl⟩ := Option.map_eq_some_iff.1 hu
  refine TreeOk.val fun s e a w hh => ?_
  have hp : ∀ p ∈ parts.toList, Sees σ s e a p.2 := fun p hp => hh p.2 (by rw [ho]; simp only [Op.operands]; simpa using ⟨p.1, by simpa using hp⟩)
  obtain ⟨h1, h2⟩ := builtL_ok hT hr hp w
  refine ⟨?_, h2⟩
  unfold execOp
  simp only [ho]
  exact runV h1
/-- A new row of elements. -/
def rowL (tb : Tb) (σ : St) (el len : Nat) (parts : List (Nat × Operand)) : Option (List Cv) := match tb.info el with
  | some ti => match ti.zero with
    | some z => match Nat.ble (len * ti.size) 16777216 && Nat.blt 0 (len * ti.size) with
      | true => fillL σ (fun i => some (i * ti.size, ti.size)) ((List.range (len * ti.size)).map fun i => Cv.ofL true (z.cells[i % z.cells.size]!)) parts
      | false => none
    | none => none
  | none => none
def buildSliceS (tb : Tb) (σ : St) (t : TypeId) (len : Nat) (parts : Array (Nat × Operand)) : Tree OpE := match tb.und t with
  | some (.slice el) => match rowL tb σ el len parts.toList with
    | some cs => newT σ (fun id => .one (.slc id (.lit 0) (.lit len) (.lit len))) (.ar el false cs none)
    | none => .fail
  | _ => .fail
theorem fillL_fits {place : Nat → Option (Nat × Nat)} {s : Sto} {e : Env} {a : Act} {parts : List (Nat × Operand)} {l r : List Cv} (h : fillL σ place l parts = some r) (hh : ∀ p ∈ parts, Sees σ s e a p.2) (hl : scs s l) : scs s r := (fillL_ok h hh hl).2.1
theorem buildSliceS_ok (hT : TbOk P tb) {t : TypeId} {len : Nat} {parts : Array (Nat × Operand)} (ho : o.op = .buildSlice t len parts) : TreeOk P σ o (buildSliceS tb σ t len parts) := by
  unfold buildSliceS
  split
  · rename_i el hu
    split
    · rename_i cs hc
      unfold rowL at hc
      split at hc
      · rename_i ti hti
        split at hc
        · rename_i z hz
          split at hc
          · rename_i hb
            rw [Bool.and_eq_true, Nat.ble_eq, blt_iff] at hb
            refine newT_ok (fun s e a w hh => ?_) (fun s hk => ⟨hk, trivial, trivial, trivial⟩)
            have hp : ∀ p ∈ parts.toList, Sees σ s e a p.2 := fun p hp => hh p.2 (by rw [ho]; simp only [Op.operands]; simpa using ⟨p.1, by simpa using hp⟩)
            have hzs : scs s ((List.range (len * ti.size)).map fun i => Cv.ofL true (z.cells[i % z.cells.size]!)) := fun c hc => by obtain ⟨x, _, rfl⟩ := List.mem_map.1 hc; exact Cv.ofL_sc _ _ _
            obtain ⟨f1, f2, _⟩ := fillL_ok hc hp hzs
            refine ⟨densA e cs, fits_ar f2, ?_⟩
            have hzd : densA e ((List.range (len * ti.size)).map fun i => Cv.ofL true (z.cells[i % z.cells.size]!)) = (Array.range (len * ti.size)).map (z.cells[· % z.cells.size]!) := by
              unfold densA
              apply Array.ext'
              simp [List.map_map, Function.comp_def, Cv.ofL_den]
            rw [hzd] at f1
            unfold execOp
            simp only [ho]
            refine runV ?_
            have hm : (parts.map fun (i, x) => (i, a.eval x)).toList = parts.toList.map fun p => (p.1, a.eval p.2) := by simp
            simp only [Instr.buildSlice, Sem.run_bind, run_und hT hu, Result.andThen_ok, run_size hT hti]
            rw [if_neg (by omega), if_neg (by omega)]
            simp only [Sem.run_bind, run_zero hT hti hz, Result.andThen_ok, Sem.run_pure]
            rw [hm, f1]
            show (Result.ok _ _ : Result Value) = Result.ok (Value.slice (some ((e.setPl σ.nx (w.heap.size, 0)).ad σ.nx 0)) len len) _
            rw [setPl_ad]
            rfl
          · cases hc
        · cases hc
      · cases hc
    · exact TreeOk.fail
  · exact TreeOk.fail

def buildSliceE (tb : Tb) (σ : St) (t : TypeId) (len : Nat) (parts : Array (Nat × Operand)) : Tree OpE := match tb.und t, len, parts.toList with
  | some (.slice el), 0, [] => match tb.info el with
    | some _ => newT σ (fun id => .one (.slc id (.lit 0) (.lit 0) (.lit 0))) (.ar el false [] none)
    | none => .fail
  | _, _, _ => buildSliceS tb σ t len parts
theorem buildSliceE_ok (hT : TbOk P tb) {t : TypeId} {len : Nat} {parts : Array (Nat × Operand)} (ho : o.op = .buildSlice t len parts) : TreeOk P σ o (buildSliceE tb σ t len parts) := by
  unfold buildSliceE
  split
  · rename_i el hu hpl
    have hp0 : parts = #[] := Array.ext' (by simpa using hpl)
    subst hp0
    split
    · rename_i ti hti
      refine newT_ok (fun s e a w hh => ?_) (fun s hk => ⟨hk, trivial, trivial, trivial⟩)
      refine ⟨densA e [], fits_ar (fun c hc => by cases hc), ?_⟩
      unfold execOp
      simp only [ho]
      refine runV ?_
      simp only [Instr.buildSlice, Sem.run_bind, run_und hT hu, Result.andThen_ok, run_size hT hti, Nat.zero_mul]
      rw [if_neg (by decide), if_pos trivial]
      have hfl : Instr.fill (fun i => some (i * ti.size, ti.size)) (Array.map (fun x => (#[] : Array Value)[x % (#[] : Array Value).size]!) (Array.range 0)) (Array.map (fun (x : Nat × Operand) => (x.fst, a.eval x.snd)) #[]).toList = some #[] := by
        simp [Instr.fill]
      simp only [Sem.run_bind, Sem.run_pure, Result.andThen_ok]
      rw [hfl]
      show (Result.ok _ _ : Result Value) = Result.ok (Value.slice (some ((e.setPl σ.nx (w.heap.size, 0)).ad σ.nx 0)) 0 0) _
      rw [setPl_ad]
      rfl
    · exact TreeOk.fail
  · exact buildSliceS_ok hT ho
/-! load -/
/-- What a cell of a type holds: a number of a kind, or a truth value. -/
inductive Lf where
  | b
  | i (k : IntKind)
def lvFs (tb : Tb) (f : TypeId → Option (List Lf)) : List Field → Nat → Option (List Lf)
  | [], _ => some []
  | fd :: fs, off => match f fd.type, tb.info fd.type with
    | some l, some i => match Nat.beq fd.offset off && Nat.beq l.length i.size with
      | true => (lvFs tb f fs (off + i.size)).map fun r => l ++ r
      | false => none
    | _, _ => none
def lvRep (l : List Lf) : Nat → List Lf
  | 0 => []
  | n + 1 => l ++ lvRep l n
def chkLen (tb : Tb) (t : TypeId) (o : Option (List Lf)) : Option (List Lf) := match o, tb.info t with
  | some l, some i => match Nat.beq l.length i.size with
    | true => some l
    | false => none
  | _, _ => none
def leaves (tb : Tb) : Nat → TypeId → Option (List Lf)
  | 0, _ => none
  | d + 1, t => match tb.und t with
    | some .bool => some [.b]
    | some (.int k) => some [.i k]
    | some (.struct fs) => chkLen tb t (lvFs tb (leaves tb d) fs.toList 0)
    | some (.array n e) => match leaves tb d e, tb.info e with
      | some l, some i => match Nat.beq l.length i.size with
        | true => chkLen tb t (some (lvRep l n))
        | false => none
      | _, _ => none
    | _ => none
def vbOf : Value → Bool
  | .bool b => b
  | _ => false
def viOf : Value → Int
  | .int _ n => n
  | _ => 0
def Lf.of : Lf → Value → Cv
  | .b, v => .b (vbOf v) false
  | .i k, v => .i k (viOf v) false
def Lf.isV : Lf → Value → Bool
  | .b, .bool _ => true
  | .i k, .int k' _ => decide (k = k')
  | _, _ => false
theorem Lf.of_den {l : Lf} {v : Value} (h : l.isV v = true) (e : Env) : (l.of v).den e = v := by
  cases l with
  | b => cases v <;> first | rfl | cases h
  | i k => cases v with
    | int k' n =>
      obtain rfl : k = k' := by simpa [Lf.isV] using h
      rfl
    | _ => cases h
theorem Lf.of_sc (l : Lf) (v : Value) (s : Sto) : (l.of v).sc s := by cases l <;> trivial
/-- Out of a block that is not written out: by the types of its cells. -/
def oqOne (tb : Tb) (t : TypeId) (id k n : Nat) (f : Nat → Value) : Tree OpE := .must (decide (k < n)) (match leaves tb 20 t with
  | some [l] => .must (l.isV (f k)) (.leaf ⟨some (.one (l.of (f k))), [.k id], []⟩)
  | _ => .leaf ⟨some (.one (Cv.ofL false (f k))), [.k id], []⟩)
def lfAt (ls : List Lf) (j : Nat) : Lf := (ls[j]?).getD .b
def oqAgg (tb : Tb) (t : TypeId) (id k n m : Nat) (f : Nat → Value) : Tree OpE := .must (decide (k + m ≤ n)) (match leaves tb 20 t with
  | some ls => .must ((List.range m).all fun j => (lfAt ls j).isV (f (k + j))) (.leaf ⟨some (.agg ((List.range m).map fun j => (lfAt ls j).of (f (k + j)))), [.k id], []⟩)
  | none => .leaf ⟨some (.agg ((List.range m).map fun j => Cv.ofL false (f (k + j)))), [.k id], []⟩)
def cellLocs (id : Nat) : Nat → Nat → List Loc
  | _, 0 => []
  | off, n + 1 => .c id off :: cellLocs id (off + 1) n
theorem mem_cellLocs {id : Nat} : ∀ {n off j : Nat}, off ≤ j → j < off + n → Loc.c id j ∈ cellLocs id off n
  | 0, off, j, h1, h2 => by omega
  | n + 1, off, j, h1, h2 => by
    by_cases e : j = off
    · subst e; exact List.mem_cons_self
    · exact List.mem_cons_of_mem _ (mem_cellLocs (by omega) (by omega))
def loadS (tb : Tb) (σ : St) (t : TypeId) (v : Sv) : Tree OpE := match v with
  | .one (.ptr id off) => match alook σ.bk id with
    | some (.ar _ _ cs _) => match off, tb.agg t, tb.info t with
      | .lit k, some false, _ => match cs[k]? with
        | some c => .leaf ⟨some (.one c), [.c id k], []⟩
        | none => .fail
      | .lit k, some true, some i => match Nat.ble (k + i.size) cs.length with
        | true => .leaf ⟨some (.agg ((cs.drop k).take i.size)), cellLocs id k i.size, []⟩
        | false => .fail
      | _, _, _ => .fail
    | some (.oq _ _ n f _) => match off, tb.agg t, tb.info t with
      | .nam _, _, _ => .fail
      | .lit k, some false, _ => oqOne tb t id k n f
      | .opq k, some false, _ => oqOne tb t id k n f
      | .lit k, some true, some i => oqAgg tb t id k n i.size f
      | .opq k, some true, some i => oqAgg tb t id k n i.size f
      | _, _, _ => .fail
    | _ => .fail
  | _ => .fail
theorem loadS_ok (hT : TbOk P tb) {t : TypeId} {x : Operand} {v : Sv} (ho : o.op = .load t x) (hx : evO σ x = some v) : TreeOk P σ o (loadS tb σ t v) := by
  have one : ∀ {id k : Nat} {off : Sn} {c : Cv} {rl : List Loc}, v = .one (.ptr id off) → (∀ e, off.den e = k) → tb.agg t = some false →
      (∀ (C : Ctx) (e : Env) (s : Sto) (w : World), Hp C e s w → (∀ l ∈ rl, s l = look σ l) → w.cell? (e.ad id k) = some (c.den e) ∧ c.sc s) → TreeOk P σ o (.leaf ⟨some (.one c), rl, []⟩) := by
    intro id k off c rl hv hk ha h
    subst hv
    refine TreeOk.leaf (OpOk.pure fun C e s a w hp hh hl => ?_)
    obtain ⟨x1, _⟩ := hh x (by rw [ho]; simp [Op.operands]) _ hx
    obtain ⟨h1, h2⟩ := h C e s w hp hl
    refine ⟨?_, h2⟩
    unfold execOp
    simp only [ho]
    rw [x1]
    refine runV ?_
    simp only [Instr.loadAt, Sv.den, Cv.den, Instr.sureAddr, Sem.run_bind, Sem.run_pure, Result.andThen_ok, loadVar, run_agg hT ha, Bool.false_eq_true, if_false, run_load, hk e, h1]
  have many : ∀ {id k : Nat} {off : Sn} {i : TypeInfo} {f : Nat → Cv} {cs : List Cv} {rl : List Loc}, v = .one (.ptr id off) → (∀ e, off.den e = k) → tb.agg t = some true → tb.info t = some i → (cs = (List.range i.size).map f) →
      (∀ (C : Ctx) (e : Env) (s : Sto) (w : World), Hp C e s w → (∀ l ∈ rl, s l = look σ l) → ∀ j, j < i.size → w.cell? (e.ad id (k + j)) = some ((f j).den e) ∧ (f j).sc s) → TreeOk P σ o (.leaf ⟨some (.agg cs), rl, []⟩) := by
    intro id k off i f cs rl hv hk ha hi hcs h
    subst hv hcs
    refine TreeOk.leaf (OpOk.pure fun C e s a w hp hh hl => ?_)
    obtain ⟨x1, _⟩ := hh x (by rw [ho]; simp [Op.operands]) _ hx
    have h' := h C e s w hp hl
    refine ⟨?_, fun c hc => ?_⟩
    · unfold execOp
      simp only [ho]
      rw [x1]
      refine runV ?_
      have hr := run_loadCells (P := P) w (e.ad id k) i.size (fun j => (f j).den e) (fun j hj => by rw [ad_add]; exact (h' j hj).1)
      simp only [Instr.loadAt, den_ptr, den_agg, Instr.sureAddr, Sem.run_bind, Sem.run_pure, Result.andThen_ok, loadVar, run_agg hT ha, if_true, run_size hT hi, hk e, hr]
      unfold densA
      rw [List.map_map]
      rfl
    · obtain ⟨j, hj, rfl⟩ := List.mem_map.1 hc
      exact (h' j (List.mem_range.1 hj)).2
  unfold loadS
  split
  · rename_i id off
    split
    · rename_i t' ro cs cp hb
      have hcell : ∀ (C : Ctx) (e : Env) (s : Sto) (w : World), Hp C e s w → ∀ k c, s (.c id k) = look σ (.c id k) → cs[k]? = some c → w.cell? (e.ad id k) = some (c.den e) ∧ c.sc s := by
        intro C e s w hp k c hl hc
        have h1 : s (.c id k) = some (.cv c) := by
          rw [hl]; simp only [look, hb, Option.bind_some, Blk.cell, hc, Option.map_some]
        obtain ⟨h2, _, h3⟩ := hp.cl id k c h1
        exact ⟨h3, h2⟩
      split
      · rename_i k ha
        split
        · rename_i c hc
          exact one rfl (fun _ => rfl) ha fun C e s w hp hl => hcell C e s w hp k c (hl _ (by simp)) hc
        · exact TreeOk.fail
      · rename_i k i ha hi
        split
        · rename_i hle
          rw [Nat.ble_eq] at hle
          refine many (f := fun j => cs.getD (k + j) (.val undef)) rfl (fun _ => rfl) ha hi ?_ fun C e s w hp hl j hj => ?_
          · apply List.ext_getElem?
            intro j
            by_cases hj : j < i.size
            · rw [List.getElem?_take_of_lt hj, List.getElem?_drop, List.getElem?_map, List.getElem?_range hj]
              have : k + j < cs.length := by omega
              simp [this]
            · rw [List.getElem?_eq_none (by simp; omega), List.getElem?_eq_none (by simp; omega)]
          · have hlt : k + j < cs.length := by omega
            refine hcell C e s w hp (k + j) _ (hl _ (mem_cellLocs (by omega) (by omega))) ?_
            simp [hlt]
        · exact TreeOk.fail
      · exact TreeOk.fail
    · rename_i t' ro n f cp hb
      have hcell : ∀ (C : Ctx) (e : Env) (s : Sto) (w : World), Hp C e s w → s (.k id) = look σ (.k id) → ∀ k, k < n → w.cell? (e.ad id k) = some ((Cv.ofL false (f k)).den e) ∧ (Cv.ofL false (f k)).sc s := by
        intro C e s w hp hl k hk
        have h1 : s (.k id) = some (.bk (.oq t' ro n f cp)) := by rw [hl]; simp only [look, hb]; rfl
        obtain ⟨h3, _⟩ := hp.oq id t' ro n f cp h1 k hk
        exact ⟨by rw [Cv.ofL_den]; exact h3, Cv.ofL_sc _ _ _⟩
      have fone : ∀ {k : Nat}, (∀ e, off.den e = k) → tb.agg t = some false → TreeOk P σ o (oqOne tb t id k n f) := by
        intro k hk ha
        refine TreeOk.must fun hm => ?_
        have hm' : k < n := by simpa using hm
        split
        · rename_i l hls
          refine TreeOk.must fun hv2 => ?_
          refine one rfl hk ha fun C e s w hp hl => ⟨?_, Lf.of_sc _ _ _⟩
          rw [Lf.of_den hv2, (hcell C e s w hp (hl _ (by simp)) k hm').1, Cv.ofL_den]
        · exact one rfl hk ha fun C e s w hp hl => hcell C e s w hp (hl _ (by simp)) k hm'
      have fagg : ∀ {k : Nat} {i : TypeInfo}, (∀ e, off.den e = k) → tb.agg t = some true → tb.info t = some i → TreeOk P σ o (oqAgg tb t id k n i.size f) := by
        intro k i hk ha hi
        refine TreeOk.must fun hm => ?_
        have hm' : k + i.size ≤ n := by simpa using hm
        split
        · rename_i ls hls
          refine TreeOk.must fun hv2 => ?_
          refine many (f := fun j => (lfAt ls j).of (f (k + j))) rfl hk ha hi rfl fun C e s w hp hl j hj => ⟨?_, Lf.of_sc _ _ _⟩
          have hj2 := List.all_eq_true.1 hv2 j (List.mem_range.2 hj)
          rw [Lf.of_den hj2, (hcell C e s w hp (hl _ (by simp)) (k + j) (by omega)).1, Cv.ofL_den]
        · exact many rfl hk ha hi rfl fun C e s w hp hl j hj => hcell C e s w hp (hl _ (by simp)) (k + j) (by omega)
      split
      · exact TreeOk.fail
      · rename_i k ha
        exact fone (fun _ => rfl) ha
      · rename_i k ha
        exact fone (fun _ => rfl) ha
      · rename_i k i ha hi
        exact fagg (fun _ => rfl) ha hi
      · rename_i k i ha hi
        exact fagg (fun _ => rfl) ha hi
      · exact TreeOk.fail
    · exact TreeOk.fail
  · exact TreeOk.fail

/-! store -/
def cellWrs (id : Nat) : Nat → List Cv → List Wr
  | _, [] => []
  | off, c :: cs => .cell id off c :: cellWrs id (off + 1) cs
theorem storeCells_run {C : Ctx} {e : Env} {id : Nat} {t : TypeId} {n : Nat} {cp : Option (Nat × Nat)} (off : Nat) : ∀ (cs : List Cv) (i : Nat) (s : Sto) (w : World), Hp C e s w → s (.k id) = some (.bk (.ar t false n cp)) → off + i + cs.length ≤ n → scs s cs → (∀ c ∈ cs, c.plainB = true) →
    ∃ w', (storeCells (e.ad id off) (cs.map (·.den e)) i).run P w = .ok () w' ∧ Hp C e (upds s (cellWrs id (off + i) cs)) w'
  | [], i, s, w, hp, _, _, _, _ => ⟨w, rfl, hp⟩
  | c :: cs, i, s, w, hp, hk, hn, hs, hc => by
    simp only [List.length_cons] at hn
    obtain ⟨f1, f2⟩ := hp.ar id t n cp hk (off + i) (by omega)
    obtain ⟨u, hu⟩ := Option.isSome_iff_exists.1 f2
    have hp' := hp.store hk (show off + i < n by omega) (hs c List.mem_cons_self)
    obtain ⟨w', h1, h2⟩ := storeCells_run off cs (i + 1) _ _ hp' (by rw [cell_k]; exact hk) (by omega) (scs.sub Sub.cell fun x hx => hs x (List.mem_cons_of_mem _ hx)) (fun x hx => hc x (List.mem_cons_of_mem _ hx))
    refine ⟨w', ?_, h2⟩
    simp only [List.map_cons, storeCells, Sem.run_bind]
    rw [ad_add, run_store P w _ _ _ (Cv.plain_cell (hc c List.mem_cons_self) e).1, hu]
    simp only [f1, Bool.false_eq_true, if_false, Result.andThen_ok]
    exact h1
def Cv.pv : Cv → Option Value
  | .b x _ => some (.bool x)
  | .i k n _ => some (.int k n)
  | .s x _ => some (.string x)
  | .val x => some x
  | _ => none
theorem Cv.pv_den {c : Cv} {v : Value} (h : c.pv = some v) (e : Env) : c.den e = v := by
  cases c <;> first | cases h; done | (obtain rfl := Option.some.inj h; rfl)
def pvs : List Cv → Option (List Value)
  | [] => some []
  | c :: cs => match c.pv, pvs cs with
    | some v, some vs => some (v :: vs)
    | _, _ => none
theorem pvs_den : ∀ {cs : List Cv} {vs : List Value}, pvs cs = some vs → (∀ e, cs.map (Cv.den e) = vs) ∧ vs.length = cs.length
  | [], vs, h => by obtain rfl := Option.some.inj h; exact ⟨fun _ => rfl, rfl⟩
  | c :: cs, vs, h => by
    simp only [pvs] at h
    split at h
    · rename_i v vs' hv hvs
      obtain rfl := Option.some.inj h
      obtain ⟨r1, r2⟩ := pvs_den hvs
      exact ⟨fun e => by rw [List.map_cons, Cv.pv_den hv e, r1 e], by simp [r2]⟩
    · cases h
def oqWrs (id : Nat) (t : TypeId) (n : Nat) (cp : Option (Nat × Nat)) : (Nat → Value) → Nat → List Value → List Wr
  | _, _, [] => []
  | f, off, c :: cs => .new id (.oq t false n (fun j => if j = off then c else f j) cp) :: oqWrs id t n cp (fun j => if j = off then c else f j) (off + 1) cs
theorem storeCellsQ_run {C : Ctx} {e : Env} {id : Nat} {t : TypeId} {n : Nat} {cp : Option (Nat × Nat)} (off : Nat) : ∀ (cs : List Value) (i : Nat) (f : Nat → Value) (s : Sto) (w : World), Hp C e s w → s (.k id) = some (.bk (.oq t false n f cp)) → off + i + cs.length ≤ n → (∀ c ∈ cs, c.oneCell' = true) →
    ∃ w', (storeCells (e.ad id off) cs i).run P w = .ok () w' ∧ Hp C e (upds s (oqWrs id t n cp f (off + i) cs)) w'
  | [], i, f, s, w, hp, _, _, _ => ⟨w, rfl, hp⟩
  | c :: cs, i, f, s, w, hp, hk, hn, hc => by
    simp only [List.length_cons] at hn
    obtain ⟨f2, f1⟩ := hp.oq id t false n f cp hk (off + i) (by omega)
    have hp' := hp.storeQ (v := c) hk (show off + i < n by omega)
    obtain ⟨w', h1, h2⟩ := storeCellsQ_run off cs (i + 1) _ _ _ hp' (by rw [new_k, if_pos rfl]; rfl) (by omega) (fun x hx => hc x (List.mem_cons_of_mem _ hx))
    refine ⟨w', ?_, h2⟩
    simp only [storeCells, Sem.run_bind]
    rw [ad_add, run_store P w _ _ _ (hc c List.mem_cons_self), f2]
    simp only [f1 rfl, Bool.false_eq_true, if_false, Result.andThen_ok]
    exact h1
def storeS (tb : Tb) (σ : St) (t : TypeId) (va vx : Sv) : Tree OpE := match va, vx.cs, tb.info t with
  | .one (.ptr id off), some cs, some ti => match Nat.beq cs.length ti.size with
    | true => match alook σ.bk id, off with
      | some (.ar _ false l _), .lit k => match Nat.ble (k + cs.length) l.length with
        | true => .leaf ⟨none, [.k id], cellWrs id k cs⟩
        | false => .fail
      | some (.oq t' false n f cp), .lit k => match pvs cs with
        | some vs => .must (decide (k + cs.length ≤ n)) (.leaf ⟨none, [.k id], oqWrs id t' n cp f k vs⟩)
        | none => .fail
      | some (.oq t' false n f cp), .opq k => match pvs cs with
        | some vs => .must (decide (k + cs.length ≤ n)) (.leaf ⟨none, [.k id], oqWrs id t' n cp f k vs⟩)
        | none => .fail
      | _, _ => .fail
    | false => .fail
  | _, _, _ => .fail
theorem storeS_ok (hT : TbOk P tb) {t : TypeId} {x y : Operand} {va vx : Sv} (ho : o.op = .store t x y) (hx : evO σ x = some va) (hy : evO σ y = some vx) : TreeOk P σ o (storeS tb σ t va vx) := by
  unfold storeS
  split
  · rename_i id off cs ti hc hti
    obtain ⟨c1, c2, c3⟩ := Sv.cs_ok hc
    split
    · rename_i hlen
      have hlen' := beq_iff'.1 hlen
      have go : ∀ {k : Nat} {ws : List Wr}, (∀ e, off.den e = k) → (∀ (C : Ctx) (e : Env) (s : Sto) (w : World), Hp C e s w → (∀ l ∈ [Loc.k id], s l = look σ l) → scs s cs → ∃ w', (storeCells (e.ad id k) (cs.map (·.den e)) 0).run P w = .ok () w' ∧ Hp C e (upds s ws) w') → TreeOk P σ o (.leaf ⟨none, [.k id], ws⟩) := by
        intro k ws hk h
        refine TreeOk.leaf fun C e s a w hp hh hl => ?_
        obtain ⟨x1, _⟩ := hh x (by rw [ho]; simp [Op.operands]) _ hx
        obtain ⟨y1, y2⟩ := hh y (by rw [ho]; simp [Op.operands]) _ hy
        obtain ⟨w', h1, h2⟩ := h C e s w hp hl (c2 s y2)
        refine ⟨.skip, e, w', ?_, Agree.refl _ _, h2, rfl⟩
        unfold execOp
        simp only [ho]
        rw [x1, y1]
        refine runU ?_
        have hsz : ¬ ((vx.den e).cells.size ≠ ti.size) := by rw [c1 e]; simp [densA, hlen']
        simp only [Instr.storeAt, den_ptr, Instr.sureAddr, Sem.run_bind, Sem.run_pure, Result.andThen_ok, storeVar, run_size hT hti]
        rw [if_neg hsz, c1 e, hk e]
        exact h1
      split
      · rename_i t' l cp k hb
        split
        · rename_i hle
          rw [Nat.ble_eq] at hle
          refine go (fun _ => rfl) fun C e s w hp hl hs => ?_
          have h1 : s (.k id) = some (.bk (.ar t' false l.length cp)) := by rw [hl _ (by simp)]; simp only [look, hb]; rfl
          have := storeCells_run (P := P) k cs 0 s w hp h1 (by omega) hs c3
          simpa using this
        · exact TreeOk.fail
      · rename_i t' n f cp k hb
        split
        · rename_i vs hvs
          obtain ⟨d1, d2⟩ := pvs_den hvs
          refine TreeOk.must fun hm => ?_
          have hm' : k + cs.length ≤ n := by simpa using hm
          refine go (fun _ => rfl) fun C e s w hp hl hs => ?_
          have h1 : s (.k id) = some (.bk (.oq t' false n f cp)) := by rw [hl _ (by simp)]; simp only [look, hb]; rfl
          have hone : ∀ v ∈ vs, v.oneCell' = true := fun v hv => by
            rw [← d1 e] at hv
            obtain ⟨c, hc', rfl⟩ := List.mem_map.1 hv
            exact (Cv.plain_cell (c3 c hc') e).1
          have := storeCellsQ_run (P := P) k vs 0 f s w hp h1 (by omega) hone
          rw [d1 e]
          simpa using this
        · exact TreeOk.fail
      · rename_i t' n f cp k hb
        split
        · rename_i vs hvs
          obtain ⟨d1, d2⟩ := pvs_den hvs
          refine TreeOk.must fun hm => ?_
          have hm' : k + cs.length ≤ n := by simpa using hm
          refine go (fun _ => rfl) fun C e s w hp hl hs => ?_
          have h1 : s (.k id) = some (.bk (.oq t' false n f cp)) := by rw [hl _ (by simp)]; simp only [look, hb]; rfl
          have hone : ∀ v ∈ vs, v.oneCell' = true := fun v hv => by
            rw [← d1 e] at hv
            obtain ⟨c, hc', rfl⟩ := List.mem_map.1 hv
            exact (Cv.plain_cell (c3 c hc') e).1
          have := storeCellsQ_run (P := P) k vs 0 f s w hp h1 (by omega) hone
          rw [d1 e]
          simpa using this
        · exact TreeOk.fail
      · exact TreeOk.fail
    · exact TreeOk.fail
  · exact TreeOk.fail
end
end Sx
end Go.Proofs.Ytladkknbkgomfaa

/-
  append.
-/
set_option linter.unusedSimpArgs false
set_option linter.unusedVariables false
namespace Go.Proofs.Ytladkknbkgomfaa
namespace Sx
open Go.RowKit

section
variable {C : Ctx} {e : Env} {s : Sto} {w : World}

/-- A block that nobody speaks of any more may be written. -/
theorem Hp.trash (h : Hp C e s w) {id : Nat} {b0 : BI} (hk : s (.k id) = some (.bk b0)) (hr : b0.rw = true) {w' : World} (ho : w'.os = w.os) (ht : w'.tape = w.tape) (hu : w'.output = w.output) (hs : w'.heap.size = w.heap.size)
    (hh : ∀ k, k ≠ (e.pl id).1 → w'.heap[k]? = w.heap[k]?) : Hp C e ((Wr.new id .gone).upd s) w' := by
  have g := h.gone id
  have live : ∀ i b, (Wr.new id .gone).upd s (.k i) = some (.bk b) → b.live = true → w'.heap[(e.pl i).1]? = w.heap[(e.pl i).1]? := by
    intro i b hb hl
    rw [gone_k] at hb
    by_cases c : i = id
    · rw [if_pos c] at hb
      obtain rfl : BI.gone = b := by simpa using hb
      cases hl
    · rw [if_neg c] at hb
      exact hh _ (fun he => h.inj id i b0 b hk hb hr hl (Ne.symm c) he.symm)
  refine ⟨g.new, ?_, ?_, ?_, ?_, g.inj, ?_, g.mu, g.pin, ⟨ho.trans g.fr.os, ht.trans g.fr.tape, hu.trans g.fr.output, by rw [hs]; exact g.fr.size, fun k hk' hM => ?_, g.fr.gl⟩⟩
  · intro i off v hv
    obtain ⟨h1, ⟨t, ro, n, cp, h2, h3⟩, h4⟩ := g.cl i off v hv
    exact ⟨h1, ⟨t, ro, n, cp, h2, h3⟩, (World.cell?_of_block (w := w) (live i _ h2 rfl)).trans h4⟩
  · intro i t n cp hi off ho'
    rw [World.frozen?_of_block (w := w) (a := e.ad i off) (live i _ hi rfl), World.cell?_of_block (w := w) (a := e.ad i off) (live i _ hi rfl)]
    exact g.ar i t n cp hi off ho'
  · intro i t ro n f cp hi off ho'
    rw [World.frozen?_of_block (w := w) (a := e.ad i off) (live i _ hi rfl), World.cell?_of_block (w := w) (a := e.ad i off) (live i _ hi rfl)]
    exact g.oq i t ro n f cp hi off ho'
  · intro i b c es hi hcp
    have hl : b.live = true := by cases b <;> first | rfl | cases hcp
    obtain ⟨h1, h2, cs, h3, h4⟩ := g.cp i b c es hi hcp
    exact ⟨h1, h2, cs, (live i b hi hl).trans h3, h4⟩
  · intro i b hi hl; rw [hs]; exact g.lt i b hi hl
  · rw [← g.fr.block k hk' hM]
    exact hh k (fun he => hM (by rw [he]; exact h.mu id b0 hk hr))
/-- A block that is there, and that nobody speaks of, gets a name. -/
theorem Hp.adopt (h : Hp C e s w) {id : Nat} (hid : s (.k id) = none) {b : Blk} {xs : Array Value} {g : Nat} (hb : w.heap[g]? = some (.cells xs b.info.t (0, 0))) (hM : C.M g)
    (hfree : ∀ i b', s (.k i) = some (.bk b') → b'.live = true → (e.pl i).1 ≠ g) (hf : Fits e s xs b) : Hp C (e.setPl id (g, 0)) ((Wr.new id b).upd s) w ∧ Agree s e (e.setPl id (g, 0)) := by
  have hnk : ∀ i, kn s i → i ≠ id := fun i hi ec => by subst ec; unfold kn at hi; rw [hid] at hi; cases hi
  have hA : Agree s e (e.setPl id (g, 0)) := ⟨fun i hi => by simp only [Env.setPl]; rw [if_neg (hnk i hi)], fun _ _ => rfl⟩
  have hS : Sub s ((Wr.new id b).upd s) := Sub.new
  have had : ∀ o, (e.setPl id (g, 0)).ad id o = ⟨g, o, none⟩ := fun o => by simp [Env.ad, Env.setPl]
  have hpl : (e.setPl id (g, 0)).pl id = (g, 0) := by simp [Env.setPl]
  have kns : ∀ i b', s (.k i) = some (.bk b') → kn s i := fun i b' hi => by unfold kn; rw [hi]; rfl
  have hcell : ∀ o, w.cell? ⟨g, o, none⟩ = xs[o]? := fun o => by simp [World.cell?, hb]
  have hfr : ∀ o, w.frozen? ⟨g, o, none⟩ = false := fun o => by simp [World.frozen?, hb]
  have old : ∀ i o (hi : kn s i), (e.setPl id (g, 0)).ad i o = e.ad i o := fun i o hi => hA.ad hi
  have rwl : ∀ b : BI, b.rw = true → b.live = true := fun b hb => by cases b <;> first | rfl | cases hb
  refine ⟨⟨h.new, ?_, ?_, ?_, ?_, ?_, ?_, ?_, h.pin.mono hA hS, h.fr⟩, hA⟩
  · intro i off v hv
    rw [new_c] at hv
    by_cases c : i = id
    · subst c
      rw [if_pos rfl] at hv
      cases b with
      | ar t ro cs cp =>
        obtain ⟨f1, f2, f3⟩ := hf
        simp only [Blk.cell, Option.map_eq_some_iff, LV.cv.injEq] at hv
        obtain ⟨x, hx, rfl⟩ := hv
        have hx1 := f1 x (List.mem_of_getElem? hx)
        refine ⟨hx1.sub hS, ⟨t, ro, cs.length, cp, by rw [new_k, if_pos rfl]; rfl, (List.getElem?_eq_some_iff.1 hx).1⟩, ?_⟩
        rw [had, hcell, f2 off x hx, Cv.den_agree hA hx1]
      | oq t ro n f cp => cases hv
      | gone => cases hv
    · rw [if_neg c] at hv
      obtain ⟨h1, ⟨t, ro, n, cp, h2, h3⟩, h4⟩ := h.cl i off v hv
      refine ⟨h1.sub hS, ⟨t, ro, n, cp, by rw [new_k, if_neg c]; exact h2, h3⟩, ?_⟩
      rw [old i off (kns i _ h2), h4, Cv.den_agree hA h1]
  · intro i t n cp hi off ho
    rw [new_k] at hi
    by_cases c : i = id
    · subst c
      rw [if_pos rfl] at hi
      cases b with
      | ar t' ro cs cp' =>
        obtain ⟨f1, f2, f3⟩ := hf
        simp only [Blk.info, Option.some.injEq, LV.bk.injEq, BI.ar.injEq] at hi
        obtain ⟨rfl, rfl, rfl, rfl⟩ := hi
        refine ⟨by rw [had]; exact hfr _, ?_⟩
        rw [had, hcell, f2 off _ (List.getElem?_eq_getElem ho)]
        rfl
      | oq t' ro n' f cp' => simp [Blk.info] at hi
      | gone => simp [Blk.info] at hi
    · rw [if_neg c] at hi
      rw [old i off (kns i _ hi)]
      exact h.ar i t n cp hi off ho
  · intro i t ro n f cp hi off ho
    rw [new_k] at hi
    by_cases c : i = id
    · subst c
      rw [if_pos rfl] at hi
      cases b with
      | oq t' ro' n' f' cp' =>
        simp only [Blk.info, Option.some.injEq, LV.bk.injEq, BI.oq.injEq] at hi
        obtain ⟨rfl, rfl, rfl, rfl, rfl⟩ := hi
        refine ⟨?_, fun _ => by rw [had]; exact hfr _⟩
        rw [had, hcell, hf.1 off ho]
      | ar t' ro' cs cp' => simp [Blk.info] at hi
      | gone => simp [Blk.info] at hi
    · rw [if_neg c] at hi
      rw [old i off (kns i _ hi)]
      exact h.oq i t ro n f cp hi off ho
  · intro i b' c es hi hcp
    rw [new_k] at hi
    by_cases ci : i = id
    · subst ci
      rw [if_pos rfl] at hi
      obtain rfl : b.info = b' := by simpa using hi
      refine ⟨?_, by rw [hpl], xs, by rw [hpl]; exact hb, ?_⟩
      · cases b with
        | ar t' ro' cs cp' => exact hS.2 c (hf.2.2 c es hcp).1
        | oq t' ro' n' f' cp' => exact hS.2 c (hf.2 c es hcp).1
        | gone => cases hcp
      · cases b with
        | ar t' ro' cs cp' => exact (hf.2.2 c es hcp).2
        | oq t' ro' n' f' cp' => exact (hf.2 c es hcp).2
        | gone => cases hcp
    · rw [if_neg ci] at hi
      obtain ⟨h1, h2⟩ := h.cp i b' c es hi hcp
      rw [hA.1 i (kns i _ hi)]
      exact ⟨hS.2 c h1, h2⟩
  · intro i i' b1 b2 h1 h2 h3 h4 hne
    rw [new_k] at h1 h2
    by_cases c : i = id
    · subst c
      rw [if_neg (Ne.symm hne)] at h2
      rw [hpl, hA.1 i' (kns i' _ h2)]
      exact (hfree i' b2 h2 h4).symm
    · rw [if_neg c] at h1
      rw [hA.1 i (kns i _ h1)]
      by_cases c' : i' = id
      · subst c'
        rw [hpl]
        exact hfree i b1 h1 (rwl b1 h3)
      · rw [if_neg c'] at h2
        rw [hA.1 i' (kns i' _ h2)]
        exact h.inj i i' b1 b2 h1 h2 h3 h4 hne
  · intro i b' hi hl
    rw [new_k] at hi
    by_cases c : i = id
    · subst c; rw [hpl]; exact (Array.getElem?_eq_some_iff.1 hb).1
    · rw [if_neg c] at hi
      rw [hA.1 i (kns i _ hi)]
      exact h.lt i b' hi hl
  · intro i b' hi hr
    rw [new_k] at hi
    by_cases c : i = id
    · subst c; rw [hpl]; exact hM
    · rw [if_neg c] at hi
      rw [hA.1 i (kns i _ hi)]
      exact h.mu i b' hi hr
end

section
variable {P : Program} {σ : St} {o : Oper} {tb : Tb}

/-- A slice whose length is written out: its block, its cells. -/
def slCells (σ : St) (size : Nat) : Sv → Option (Nat × Nat × Nat × List Cv)
  | .one (.slc id (.lit off) (.lit n) _) => match alook σ.bk id with
    | some (.ar _ _ cs _) => match Nat.ble (off + n * size) cs.length with
      | true => some (id, off, n, (cs.drop off).take (n * size))
      | false => none
    | _ => none
  | _ => none
def emptyB : Sv → Bool
  | .one (.val (.slice none 0 _)) => true
  | .one (.slc _ _ (.lit 0) _) => true
  | _ => false
def newRowE (σ : St) (el size need : Nat) (cs : List Cv) (rl : List Loc) (pre : List Wr) : OpE :=
  ⟨some (.one (.slc σ.nx (.lit 0) (.lit need) (.nam σ.nn))), .k σ.nx :: .n σ.nn :: rl, pre ++ [.nm σ.nn, .new σ.nx (.ar el false cs (some (σ.nn, size)))]⟩
def freshB (σ : St) : Bool := (alook σ.bk σ.nx).isNone && !memb σ.nl σ.nn
/-- The slice that is appended to: none of it is kept if it may be written. -/
def appendS (tb : Tb) (σ : St) (t t' : TypeId) (vs vx : Sv) : Tree OpE := match Nat.beq t t', tb.und t with
  | true, some (.slice el) => match tb.info el with
    | some ti => match ti.zero with
      | some z => match Nat.beq z.cells.size ti.size && (Nat.blt 0 ti.size && freshB σ) with
        | true => match slCells σ ti.size vx with
          | some (id2, off2, m, news) => match Nat.blt 0 m && news.all Cv.plainB with
            | true => match vs with
              | .one (.val (.slice none 0 0)) => match Nat.ble (m * ti.bytes) 140737488355328 && Nat.ble m 140737488355328 with
                | true => .leaf (newRowE σ el ti.size m news (.k id2 :: cellLocs id2 off2 (m * ti.size)) [])
                | false => .fail
              | .one (.slc id (.lit off) (.lit n) cap) => match slCells σ ti.size vs with
                | some (_, _, _, olds) => match Nat.ble ((n + m) * ti.bytes) 140737488355328 && Nat.ble (n + m) 140737488355328 with
                  | true => match cap with
                    | .lit c => match Nat.blt c (n + m) with
                      | true => .leaf (newRowE σ el ti.size (n + m) (olds ++ news) (.k id :: cellLocs id off (n * ti.size) ++ (.k id2 :: cellLocs id2 off2 (m * ti.size))) [])
                      | false => .fail
                    | .nam c => match alook σ.bk id, off with
                      | some (.ar el' false _ (some (c', es))), 0 => match Nat.beq el' el && (Nat.beq c c' && Nat.beq es ti.size) with
                        | true => .leaf (newRowE σ el ti.size (n + m) (olds ++ news) (.k id :: cellLocs id off (n * ti.size) ++ (.k id2 :: cellLocs id2 off2 (m * ti.size))) [.new id .gone])
                        | false => .fail
                      | _, _ => .fail
                    | _ => .fail
                  | false => .fail
                | none => .fail
              | _ => .fail
            | false => .fail
          | none => .fail
        | false => .fail
      | none => .fail
    | none => .fail
  | _, _ => .fail
theorem slCells_at {size : Nat} {v : Sv} {id off n : Nat} {cs : List Cv} (h : slCells σ size v = some (id, off, n, cs)) : (∃ cap, v = .one (.slc id (.lit off) (.lit n) cap)) ∧ cs.length = n * size ∧ ∃ t ro l cp, alook σ.bk id = some (.ar t ro l cp) ∧ off + n * size ≤ l.length ∧ cs = (l.drop off).take (n * size) := by
  unfold slCells at h
  split at h
  · rename_i id' off' n' cap
    split at h
    · rename_i t ro l cp hb
      split at h
      · rename_i hle
        rw [Nat.ble_eq] at hle
        simp only [Option.some.injEq, Prod.mk.injEq] at h
        obtain ⟨rfl, rfl, rfl, rfl⟩ := h
        exact ⟨⟨cap, rfl⟩, by simp; omega, t, ro, l, cp, hb, hle, rfl⟩
      · cases h
    · cases h
  · cases h
theorem slCells_read {size : Nat} {v : Sv} {id off n : Nat} {cs : List Cv} (h : slCells σ size v = some (id, off, n, cs)) {C : Ctx} {e : Env} {s : Sto} {w : World} (hp : Hp C e s w) (hl : ∀ l ∈ cellLocs id off (n * size), s l = look σ l) :
    scs s cs ∧ ∀ (j : Nat) (x : Value), (cs.map (·.den e))[j]? = some x → w.cell? ((e.ad id off).add j) = some x := by
  obtain ⟨_, hlen, t, ro, l, cp, hb, hle, rfl⟩ := slCells_at h
  have key : ∀ j c, ((l.drop off).take (n * size))[j]? = some c → w.cell? (e.ad id (off + j)) = some (c.den e) ∧ c.sc s := by
    intro j c hc
    have hj : j < n * size := by have := (List.getElem?_eq_some_iff.1 hc).1; simp at this; omega
    have hlc : l[off + j]? = some c := by rw [List.getElem?_take_of_lt hj, List.getElem?_drop] at hc; exact hc
    have h1 : s (.c id (off + j)) = some (.cv c) := by
      rw [hl _ (mem_cellLocs (by omega) (by omega))]
      simp only [look, hb, Option.bind_some, Blk.cell, hlc, Option.map_some]
    obtain ⟨h2, _, h3⟩ := hp.cl id (off + j) c h1
    exact ⟨h3, h2⟩
  refine ⟨fun c hc => ?_, fun j x hx => ?_⟩
  · obtain ⟨j, hj⟩ := List.mem_iff_getElem?.1 hc
    exact (key j c hj).2
  · rw [List.getElem?_map] at hx
    obtain ⟨c, hc, rfl⟩ := Option.map_eq_some_iff.1 hx
    rw [ad_add]
    exact (key j c hc).1
theorem size_ge {w : World} {need old : Nat} {e : TypeId} : need ≤ grownCap w need old e := grownCap_ge w need old e
theorem row_facts {e : Env} {cs : List Cv} {z : Array Value} {need cap size : Nat} (hlen : cs.length = need * size) (hz : z.size = size) (hcap : need ≤ cap) :
    (∀ (j : Nat) (c : Cv), cs[j]? = some c → ((cs.map (·.den e)).toArray ++ Builtin.zeroCells z (cap - need))[j]? = some (c.den e)) ∧ ((cs.map (·.den e)).toArray ++ Builtin.zeroCells z (cap - need)).size = cap * size ∧ cs.length ≤ ((cs.map (·.den e)).toArray ++ Builtin.zeroCells z (cap - need)).size := by
  refine ⟨fun j c hc => ?_, ?_, ?_⟩
  · have hlt := (List.getElem?_eq_some_iff.1 hc).1
    rw [Array.getElem?_append_left (by simpa using hlt)]
    simp [hc]
  · rw [Array.size_append, size_zeroCells, hz]
    simp only [List.size_toArray, List.length_map]
    rw [hlen, ← Nat.add_mul, show need + (cap - need) = cap by omega]
  · rw [Array.size_append]
    simp
/-- A new row, behind whatever has been forgotten. -/
theorem newRow_ok {el size need : Nat} {cs : List Cv} {rl : List Loc} {pre : List Wr} (hfr : freshB σ = true)
    (h : ∀ (C : Ctx) (e : Env) (s : Sto) (a : Act) (w : World), Hp C e s w → (∀ x ∈ o.op.operands, Sees σ s e a x) → (∀ l ∈ rl, s l = look σ l) → s (.k σ.nx) = none → s (.n σ.nn) = none →
      ∃ g cap w' xs, (execOp a.eval o).run P w = .ok (.value (.slice (some ⟨g, 0, none⟩) need cap)) w' ∧ scs s cs ∧
        (∃ s1, s1 = upds s pre ∧ Sub s s1 ∧ s1 (.k σ.nx) = none ∧ s1 (.n σ.nn) = none ∧ ((g = w.heap.size ∧ ∃ w1, w' = w1.alloc (.cells xs el) ∧ w1.heap.size = w.heap.size ∧ Hp C e s1 w1) ∨
          (Hp C e s1 w' ∧ w'.heap[g]? = some (.cells xs el (0, 0)) ∧ C.M g ∧ ∀ i b', s1 (.k i) = some (.bk b') → b'.live = true → (e.pl i).1 ≠ g))) ∧
        (∀ (j : Nat) (c : Cv), cs[j]? = some c → xs[j]? = some (c.den e)) ∧ xs.size = cap * size ∧ cs.length ≤ xs.size) : OpOk P σ o (newRowE σ el size need cs rl pre) := by
  intro C e s a w hp hx hl
  simp only [newRowE] at hl ⊢
  unfold freshB at hfr
  rw [Bool.and_eq_true] at hfr
  have hk : s (.k σ.nx) = none := by
    rw [hl _ (by simp)]
    simp only [look]
    rw [show alook σ.bk σ.nx = none by simpa using hfr.1]; rfl
  have hn : s (.n σ.nn) = none := by
    rw [hl _ (by simp)]
    simp only [look]
    rw [if_neg (by simpa using hfr.2)]
  obtain ⟨g, cap, w', xs, h1, hsc, ⟨s1, hs1, hS, hk1, hn1, h2⟩, h3, h4, h5⟩ := h C e s a w hp hx (fun l hm => hl l (by simp [hm])) hk hn
  have hfin : ∀ (e2 : Env), upds s (pre ++ [.nm σ.nn, .new σ.nx (.ar el false cs (some (σ.nn, size)))]) = (Wr.new σ.nx (.ar el false cs (some (σ.nn, size)))).upd ((Wr.nm σ.nn).upd s1) := by
    intro _
    unfold upds
    rw [List.foldl_append, hs1]
    rfl
  have knn1 : knn ((Wr.nm σ.nn).upd s1) σ.nn := by unfold knn; simp [Wr.upd, Wr.fn]
  have hk2 : (Wr.nm σ.nn).upd s1 (.k σ.nx) = none := hk1
  have fits : ∀ (e1 : Env), Agree s1 e e1 → e1.nm σ.nn = cap → Fits e1 ((Wr.nm σ.nn).upd s1) xs (.ar el false cs (some (σ.nn, size))) := by
    intro e1 hA he
    refine ⟨(scs.sub hS hsc).sub Sub.nm, fun j c hc => ?_, fun c' es hce => ?_⟩
    · rw [h3 j c hc, Cv.den_agree hA ((hsc c (List.mem_of_getElem? hc)).sub hS)]
    · obtain ⟨rfl, rfl⟩ := Prod.mk.inj (Option.some.inj hce)
      exact ⟨knn1, by rw [he]; exact h4, h5⟩
  have fin : ∀ (e1 : Env), Agree s1 e e1 → e1.nm σ.nn = cap → Hp C (e1.setPl σ.nx (g, 0)) ((Wr.new σ.nx (.ar el false cs (some (σ.nn, size)))).upd ((Wr.nm σ.nn).upd s1)) w' → Agree ((Wr.nm σ.nn).upd s1) e1 (e1.setPl σ.nx (g, 0)) →
      ∃ nx e' w'', (execOp a.eval o).run P w = .ok nx w'' ∧ Agree s e e' ∧ Hp C e' (upds s (pre ++ [.nm σ.nn, .new σ.nx (.ar el false cs (some (σ.nn, size)))])) w'' ∧
        ValIs e' (upds s (pre ++ [.nm σ.nn, .new σ.nx (.ar el false cs (some (σ.nn, size)))])) (some (.one (.slc σ.nx (.lit 0) (.lit need) (.nam σ.nn)))) nx := by
    intro e1 hA he hhp hA2
    have hA3 : Agree s e (e1.setPl σ.nx (g, 0)) := by
      refine ⟨fun i hi => ?_, fun c hc => ?_⟩
      · rw [hA2.1 i (Sub.nm.1 i (hS.1 i hi)), hA.1 i (hS.1 i hi)]
      · rw [hA2.2 c (Sub.nm.2 c (hS.2 c hc)), hA.2 c (hS.2 c hc)]
    refine ⟨_, e1.setPl σ.nx (g, 0), w', h1, hA3, by rw [hfin e]; exact hhp, ?_, ?_⟩
    · simp only [Sv.den, Cv.den, Sn.den]
      rw [show (e1.setPl σ.nx (g, 0)).ad σ.nx 0 = ⟨g, 0, none⟩ from setPl_ad e1 σ.nx g 0]
      rw [show (e1.setPl σ.nx (g, 0)).nm σ.nn = cap from he]
    · rw [hfin e]
      refine ⟨?_, trivial, trivial, ?_⟩
      · unfold kn; rw [new_k, if_pos rfl]; rfl
      · exact knn1
  rcases h2 with ⟨rfl, w1, rfl, hsz, hp1⟩ | ⟨hp1, hg, hM, hfree⟩
  · obtain ⟨q1, q2⟩ := hp1.name hn1 cap
    have he : (e.setNm σ.nn cap).nm σ.nn = cap := by simp [Env.setNm]
    obtain ⟨r1, r2⟩ := q1.alloc hk2 (fits _ q2 he)
    rw [hsz] at r1 r2
    exact fin _ q2 he r1 r2
  · obtain ⟨q1, q2⟩ := hp1.name hn1 cap
    have he : (e.setNm σ.nn cap).nm σ.nn = cap := by simp [Env.setNm]
    obtain ⟨r1, r2⟩ := q1.adopt hk2 hg hM (fun i b' hi hb => by
      have hi' : s1 (.k i) = some (.bk b') := hi
      have := hfree i b' hi' hb
      rwa [show (e.setNm σ.nn cap).pl i = e.pl i from rfl]) (fits _ q2 he)
    exact fin _ q2 he r1 r2
theorem appendS_ok (hT : TbOk P tb) {x y : Operand} {t t' : TypeId} {vs vx : Sv} (ho : o.op = .call { callee := .builtin .append, args := #[x, y], argTypes := #[t, t'] }) (hx : evO σ x = some vs) (hy : evO σ y = some vx) : TreeOk P σ o (appendS tb σ t t' vs vx) := by
  unfold appendS
  split
  · rename_i el htt hu
    obtain rfl := beq_iff'.1 htt
    split
    · rename_i ti hti
      split
      · rename_i z hz
        split
        · rename_i hb
          simp only [Bool.and_eq_true, beq_iff', blt_iff] at hb
          obtain ⟨hzs, hsz, hfr⟩ := hb
          split
          · rename_i id2 off2 m news hnews
            split
            · rename_i hb2
              simp only [Bool.and_eq_true, blt_iff] at hb2
              obtain ⟨hm, hpl⟩ := hb2
              obtain ⟨⟨cap2, rfl⟩, hlen2, _⟩ := slCells_at hnews
              have hone : ∀ e, ∀ u ∈ news.map (·.den e), Value.oneCell' u = true := fun e u hu' => by
                obtain ⟨c, hc, rfl⟩ := List.mem_map.1 hu'
                exact (Cv.plain_cell (List.all_eq_true.1 hpl c hc) e).1
              have ops : ∀ (s : Sto) (e : Env) (a : Act) (w : World), (∀ x ∈ o.op.operands, Sees σ s e a x) → (execOp a.eval o).run P w = ((do pure (.value (← Builtin.append_ #[t, t] o.type #[vs.den e, .slice (some (e.ad id2 off2)) m (cap2.den e)])) : Sem Next)).run P w := by
                intro s e a w hh
                obtain ⟨x1, _⟩ := hh x (by rw [ho]; simp [Op.operands, Call.operands]) _ hx
                obtain ⟨y1, _⟩ := hh y (by rw [ho]; simp [Op.operands, Call.operands]) _ hy
                rw [run_builtin ho]
                simp only [List.map_toArray, List.map_cons, List.map_nil, x1, y1]
                rfl
              split
              · -- the slice is nil
                split
                · rename_i hby
                  rw [Bool.and_eq_true, Nat.ble_eq, Nat.ble_eq] at hby
                  refine TreeOk.leaf (newRow_ok hfr fun C e s a w hp hh hl hk hn => ?_)
                  obtain ⟨r1, r2⟩ := slCells_read hnews hp (fun l hm => hl l (List.mem_cons_of_mem _ hm))
                  have hrun := run_append_nil (P := P) w t o.type el ti z (hT.und hu) (hT.info hti) hz (e.ad id2 off2) m (cap2.den e) (news.map (·.den e)) (by simpa using hlen2) r2 hm (by omega) (by omega)
                  obtain ⟨f1, f2, f3⟩ := row_facts (e := e) hlen2 hzs (size_ge (w := w) (need := m) (old := 0) (e := el))
                  exact ⟨w.heap.size, grownCap w m 0 el, _, _, (ops s e a w hh).trans (runV hrun), r1, ⟨s, rfl, Sub.refl _, hk, hn, Or.inl ⟨rfl, w.drew, rfl, rfl, hp.drew⟩⟩, f1, f2, f3⟩
                · exact TreeOk.fail
              · rename_i id off n cap
                split
                · rename_i id' off' n' olds holds
                  obtain ⟨⟨cap', hce⟩, hleno, t0, ro0, l0, cp0, hbk, hle0, hold0⟩ := slCells_at holds
                  simp only [Sv.one.injEq, Cv.slc.injEq, Sn.lit.injEq] at hce
                  obtain ⟨rfl, rfl, rfl, rfl⟩ := hce
                  split
                  · rename_i hby
                    rw [Bool.and_eq_true, Nat.ble_eq, Nat.ble_eq] at hby
                    have hlen : (olds ++ news).length = (n + m) * ti.size := by rw [List.length_append, hleno, hlen2, Nat.add_mul]
                    -- there is no room
                    have grow : ∀ (e : Env) (s : Sto) (a : Act) (w : World) (c : Nat), (∀ x ∈ o.op.operands, Sees σ s e a x) → cap.den e = c → c < n + m → (∀ (j : Nat) (x : Value), (olds.map (·.den e))[j]? = some x → w.cell? ((e.ad id off).add j) = some x) → (∀ (j : Nat) (x : Value), (news.map (·.den e))[j]? = some x → w.cell? ((e.ad id2 off2).add j) = some x) →
                        (execOp a.eval o).run P w = .ok (.value (.slice (some ⟨w.heap.size, 0, none⟩) (n + m) (grownCap w (n + m) c el))) (w.drew.alloc (.cells (((olds ++ news).map (·.den e)).toArray ++ Builtin.zeroCells z.cells (grownCap w (n + m) c el - (n + m))) el)) := by
                      intro e s a w c hh hcd hlt r2 q2
                      rw [ops s e a w hh]
                      refine runV ?_
                      have hrun := run_append_grow (P := P) w t o.type el ti z (hT.und hu) (hT.info hti) hz (e.ad id off) n c (olds.map (·.den e)) (by simpa using hleno) r2 (e.ad id2 off2) m (cap2.den e) (news.map (·.den e)) (by simpa using hlen2) q2 hlt (by omega) (growslice_fits hlt hby.1)
                      show (Builtin.append_ #[t, t] o.type #[.slice (some (e.ad id off)) n (cap.den e), .slice (some (e.ad id2 off2)) m (cap2.den e)]).run P w = _
                      rw [hcd]
                      refine hrun.trans ?_
                      have hap : ((olds ++ news).map (·.den e)).toArray = (olds.map (·.den e)).toArray ++ (news.map (·.den e)).toArray := by simp
                      rw [hap]
                    split
                    · rename_i c
                      split
                      · rename_i hlt
                        have hlt' := blt_iff.1 hlt
                        refine TreeOk.leaf (newRow_ok hfr fun C e s a w hp hh hl hk hn => ?_)
                        obtain ⟨r1, r2⟩ := slCells_read holds hp (fun l hm => hl l (List.mem_append_left _ (List.mem_cons_of_mem _ hm)))
                        obtain ⟨q1, q2⟩ := slCells_read hnews hp (fun l hm => hl l (List.mem_append_right _ (List.mem_cons_of_mem _ hm)))
                        obtain ⟨f1, f2, f3⟩ := row_facts (e := e) hlen hzs (size_ge (w := w) (need := n + m) (old := c) (e := el))
                        refine ⟨w.heap.size, grownCap w (n + m) c el, _, _, grow e s a w c hh rfl hlt' r2 q2, ?_, ⟨s, rfl, Sub.refl _, hk, hn, Or.inl ⟨rfl, w.drew, rfl, rfl, hp.drew⟩⟩, f1, f2, f3⟩
                        intro x hxm
                        rcases List.mem_append.1 hxm with h | h
                        · exact r1 x h
                        · exact q1 x h
                      · exact TreeOk.fail
                    · rename_i c
                      split
                      · rename_i el' l1 c' es hb1
                        split
                        · rename_i hcc
                          simp only [Bool.and_eq_true, beq_iff'] at hcc
                          obtain ⟨rfl, rfl, rfl⟩ := hcc
                          refine TreeOk.leaf (newRow_ok hfr fun C e s a w hp hh hl hk hn => ?_)
                          have hkid : s (.k id) = some (.bk (.ar el' false l1.length (some (c, ti.size)))) := by
                            rw [hl _ (by simp)]
                            simp only [look, hb1]; rfl
                          have hne : σ.nx ≠ id := fun h => by rw [h, hkid] at hk; cases hk
                          obtain ⟨r1, r2⟩ := slCells_read holds hp (fun l hm => hl l (List.mem_append_left _ (List.mem_cons_of_mem _ hm)))
                          obtain ⟨q1, q2⟩ := slCells_read hnews hp (fun l hm => hl l (List.mem_append_right _ (List.mem_cons_of_mem _ hm)))
                          have hsc : scs s (olds ++ news) := fun x hxm => by
                            rcases List.mem_append.1 hxm with h | h
                            · exact r1 x h
                            · exact q1 x h
                          have hs1k : (Wr.new id .gone).upd s (.k σ.nx) = none := by rw [gone_k, if_neg hne]; exact hk
                          obtain ⟨_, hp2, cur, hcur, hcsz, _⟩ := hp.cp id _ c ti.size hkid rfl
                          simp only [BI.t] at hcur
                          have had0 : e.ad id 0 = ⟨(e.pl id).1, 0, none⟩ := by unfold Env.ad; rw [hp2]
                          by_cases hroom : n + m ≤ e.nm c
                          · -- there is room
                            have hsize : n * ti.size + (news.map (·.den e)).length ≤ cur.size := by
                              rw [List.length_map, hlen2, hcsz, ← Nat.add_mul]; exact Nat.mul_le_mul_right _ hroom
                            have hrun := run_append_room (P := P) w t o.type el' ti (hT.und hu) (hT.info hti) (e.pl id).1 n (e.nm c) cur hcur (e.ad id2 off2) m (cap2.den e) (news.map (·.den e)) (by simpa using hlen2) q2 (hone e) hroom hsize
                            have htake : cur.toList.take (n * ti.size) = olds.map (·.den e) := by
                              apply List.ext_getElem?
                              intro j
                              by_cases hj : j < n * ti.size
                              · have hlo : j < olds.length := by omega
                                have h1 := r2 j _ (by rw [List.getElem?_map, List.getElem?_eq_getElem hlo]; rfl)
                                rw [had0, Addr.add_lit, Nat.zero_add] at h1
                                simp only [World.cell?, hcur] at h1
                                rw [List.getElem?_take_of_lt hj, List.getElem?_map, List.getElem?_eq_getElem hlo]
                                simpa using h1
                              · rw [List.getElem?_eq_none (by simp; omega), List.getElem?_eq_none (by simp; omega)]
                            obtain ⟨XS, hXS⟩ : ∃ XS : Array Value, XS = (cur.toList.take (n * ti.size) ++ news.map (·.den e) ++ cur.toList.drop (n * ti.size + (news.map (·.den e)).length)).toArray := ⟨_, rfl⟩
                            rw [← hXS] at hrun
                            refine ⟨(e.pl id).1, e.nm c, w.setRow (e.pl id).1 XS, XS, (ops s e a w hh).trans (runV (by show (Builtin.append_ #[t, t] o.type #[.slice (some (e.ad id 0)) n (e.nm c), .slice (some (e.ad id2 off2)) m (cap2.den e)]).run P w = _; rw [had0]; exact hrun)), hsc, ⟨_, rfl, Sub.new, hs1k, hn, Or.inr ⟨hp.trash hkid rfl rfl rfl rfl (setRow_size _ _ _) (fun k hk' => setRow_other w _ _ _ hk'), setRow_heap w _ _ _ _ _ hcur, hp.mu id _ hkid rfl, ?_⟩⟩, ?_, ?_, ?_⟩
                            · intro i b' hi hlv
                              have hi : (Wr.new id .gone).upd s (.k i) = some (.bk b') := hi
                              rw [gone_k] at hi
                              by_cases hii : i = id
                              · rw [if_pos hii] at hi
                                obtain rfl : BI.gone = b' := by simpa using hi
                                cases hlv
                              · rw [if_neg hii] at hi
                                exact (hp.inj id i _ b' hkid hi rfl hlv (Ne.symm hii)).symm
                            · intro j x hxj
                              rw [hXS, htake]
                              have hlt := (List.getElem?_eq_some_iff.1 hxj).1
                              simp only [List.getElem?_toArray, ← List.map_append]
                              rw [List.getElem?_append_left (by simpa using hlt), List.getElem?_map, hxj]
                              rfl
                            · rw [hXS]
                              simp only [List.size_toArray, List.length_append, List.length_take, List.length_drop, Array.length_toList]
                              omega
                            · rw [hXS]
                              simp only [List.size_toArray, List.length_append, List.length_take, List.length_drop, Array.length_toList, List.length_map] at hsize ⊢
                              omega
                          · obtain ⟨f1, f2, f3⟩ := row_facts (e := e) hlen hzs (size_ge (w := w) (need := n + m) (old := e.nm c) (e := el'))
                            exact ⟨w.heap.size, grownCap w (n + m) (e.nm c) el', _, _, grow e s a w (e.nm c) hh rfl (by omega) r2 q2, hsc, ⟨_, rfl, Sub.new, hs1k, hn, Or.inl ⟨rfl, w.drew, rfl, rfl, (hp.gone id).drew⟩⟩, f1, f2, f3⟩
                        · exact TreeOk.fail
                      · exact TreeOk.fail
                    · exact TreeOk.fail
                  · exact TreeOk.fail
                · exact TreeOk.fail
              · exact TreeOk.fail
            · exact TreeOk.fail
          · exact TreeOk.fail
        · exact TreeOk.fail
      · exact TreeOk.fail
    · exact TreeOk.fail
  · exact TreeOk.fail

/-! Nothing is appended: the slice stays what it is. -/
theorem firstCells_none {x : Value} (h : (∃ a n c, x = .slice a n c) ∨ ∃ b, x = .string b) (size : Nat) (w : World) : (Builtin.firstCells size 0 x).run P w = .ok #[] w := by
  rcases h with ⟨a, n, c, rfl⟩ | ⟨b, rfl⟩
  · cases a with
    | none => rfl
    | some a =>
      simp only [Builtin.firstCells, Nat.zero_mul]
      have := run_firstCells_some (P := P) w size 0 a n c [] (by simp) (fun j x hx => by simp at hx)
      simpa [Builtin.firstCells] using this
  · simp [Builtin.firstCells]
theorem run_append_zero (w : World) (t ty e : TypeId) (i : TypeInfo) (ht : P.underlying t = some (.slice e)) (hi : P.info? e = some i) (base : Option Addr) (n cap : Nat) (h : n ≤ cap) (a : Option Addr) (c : Nat) :
    (Builtin.append_ #[t, t] ty #[.slice base n cap, .slice a 0 c]).run P w = .ok (.slice base n cap) w := by
  have hfc := firstCells_none (P := P) (Or.inl ⟨a, 0, c, rfl⟩) i.size w
  cases base with
  | none => simp [Builtin.append_, run_underlying ht, sizeOf, typeInfo, hi, Builtin.lenOf, h, hfc]
  | some b => simp [Builtin.append_, run_underlying ht, sizeOf, typeInfo, hi, Builtin.lenOf, h, hfc, storeCells]
def appendE (tb : Tb) (σ : St) (t t' : TypeId) (vs vx : Sv) : Tree OpE := match Nat.beq t t', emptyB vx, tb.und t with
  | true, true, some (.slice el) => match tb.info el with
    | some ti => match vs with
      | .one (.val (.slice none 0 0)) => valT vs
      | .one (.slc _ _ (.lit n) (.lit c)) => match Nat.ble n c with
        | true => valT vs
        | false => .fail
      | .one (.slc id _ (.lit n) (.nam c)) => match alook σ.bk id with
        | some (.ar _ _ cs (some (c', es))) => match Nat.beq c c' && (Nat.beq es ti.size && (Nat.blt 0 es && Nat.ble (n * es) cs.length)) with
          | true => .leaf ⟨some vs, [.k id], []⟩
          | false => .fail
        | _ => .fail
      | _ => .fail
    | none => .fail
  | true, false, _ => appendS tb σ t t' vs vx
  | _, _, _ => .fail
theorem emptyB_den {v : Sv} (h : emptyB v = true) (e : Env) : ∃ a c, v.den e = .slice a 0 c := by
  unfold emptyB at h
  split at h
  · exact ⟨_, _, rfl⟩
  · exact ⟨_, _, rfl⟩
  · cases h
theorem appendE_ok (hT : TbOk P tb) {x y : Operand} {t t' : TypeId} {vs vx : Sv} (ho : o.op = .call { callee := .builtin .append, args := #[x, y], argTypes := #[t, t'] }) (hx : evO σ x = some vs) (hy : evO σ y = some vx) : TreeOk P σ o (appendE tb σ t t' vs vx) := by
  unfold appendE
  split
  · rename_i el htt hem hu
    obtain rfl := beq_iff'.1 htt
    have ops : ∀ (s : Sto) (e : Env) (a : Act) (w : World) (base : Option Addr) (n cap : Nat), (∀ x ∈ o.op.operands, Sees σ s e a x) → vs.den e = .slice base n cap → n ≤ cap → ∀ ti, tb.info el = some ti → (execOp a.eval o).run P w = .ok (.value (vs.den e)) w ∧ vs.sc s := by
      intro s e a w base n cap hh hvs hle ti hti
      obtain ⟨x1, x2⟩ := hh x (by rw [ho]; simp [Op.operands, Call.operands]) _ hx
      obtain ⟨y1, _⟩ := hh y (by rw [ho]; simp [Op.operands, Call.operands]) _ hy
      obtain ⟨a2, c2, hvx⟩ := emptyB_den hem e
      refine ⟨?_, x2⟩
      rw [run_builtin ho]
      simp only [List.map_toArray, List.map_cons, List.map_nil, x1, y1, hvx, hvs]
      exact runV (run_append_zero (P := P) w t o.type el ti (hT.und hu) (hT.info hti) base n cap hle a2 c2)
    split
    · rename_i ti hti
      split
      · exact TreeOk.val fun s e a w hh => ops s e a w none 0 0 hh rfl (Nat.le_refl _) ti hti
      · rename_i n c
        split
        · rename_i hle
          exact TreeOk.val fun s e a w hh => ops s e a w _ n c hh rfl (by rwa [Nat.ble_eq] at hle) ti hti
        · exact TreeOk.fail
      · rename_i id off n c
        split
        · rename_i tt ro cs c' es hb
          split
          · rename_i hcc
            simp only [Bool.and_eq_true, beq_iff', blt_iff, Nat.ble_eq] at hcc
            obtain ⟨rfl, rfl, h0, h1⟩ := hcc
            refine TreeOk.leaf ?_
            intro C e s a w hp hh hl
            have hkid : s (.k id) = some (.bk (.ar tt ro cs.length (some (c, ti.size)))) := by
              rw [hl _ (by simp)]
              simp only [look, hb]; rfl
            obtain ⟨_, _, cur, _, hcsz, hn⟩ := hp.cp id _ c ti.size hkid rfl
            have hle : n ≤ e.nm c := by
              have h2 : n * ti.size ≤ e.nm c * ti.size := by
                rw [← hcsz]; exact Nat.le_trans h1 hn
              exact Nat.le_of_mul_le_mul_right h2 h0
            obtain ⟨r1, r2⟩ := ops s e a w _ n (e.nm c) hh rfl hle ti hti
            exact ⟨_, e, w, r1, Agree.refl _ _, hp, rfl, r2⟩
          · exact TreeOk.fail
        · exact TreeOk.fail
      · exact TreeOk.fail
    · exact TreeOk.fail
  · exact appendS_ok hT ho hx hy
  · exact TreeOk.fail

/-! A slice of a slice whose capacity has a name. -/
def capOf (σ : St) (id c size n : Nat) : Bool := match alook σ.bk id with
  | some (.ar _ _ cs (some (c', es))) => Nat.beq c c' && (Nat.beq es size && (Nat.blt 0 es && Nat.ble (n * es) cs.length))
  | _ => false
theorem capOf_le {id c size n : Nat} (h : capOf σ id c size n = true) {C : Ctx} {e : Env} {s : Sto} {w : World} (hp : Hp C e s w) (hk : s (.k id) = look σ (.k id)) : n ≤ e.nm c ∧ knn s c := by
  unfold capOf at h
  split at h
  · rename_i tt ro cs c' es hb
    simp only [Bool.and_eq_true, beq_iff', blt_iff, Nat.ble_eq] at h
    obtain ⟨rfl, rfl, h0, h1⟩ := h
    have hkid : s (.k id) = some (.bk (.ar tt ro cs.length (some (c, es)))) := by
      rw [hk]
      simp only [look, hb]; rfl
    obtain ⟨hkn, _, cur, _, hcsz, hn⟩ := hp.cp id _ c es hkid rfl
    refine ⟨?_, hkn⟩
    have h2 : n * es ≤ e.nm c * es := by
      rw [← hcsz]; exact Nat.le_trans h1 hn
    exact Nat.le_of_mul_le_mul_right h2 h0
  · cases h
def sliceN (tb : Tb) (σ : St) (t : TypeId) (id n c : Nat) (l h : Option Nat) : Tree OpE := match tb.und t with
  | some (.slice el) => match tb.info el with
    | some ti => match capOf σ id c ti.size n && (Nat.ble (lo0 l) (h.getD n) && Nat.ble (h.getD n) n) with
      | true => match Nat.beq (lo0 l) 0 with
        | true => .leaf ⟨some (.one (.slc id (.lit 0) (.lit (h.getD n)) (.nam c))), [.k id], []⟩
        | false => match Nat.blt (lo0 l) n && !memb σ.nl σ.nn with
          | true => .leaf ⟨some (.one (.slc id (.lit (lo0 l * ti.size)) (.lit (h.getD n - lo0 l)) (.nam σ.nn))), [.k id, .n σ.nn], [.nm σ.nn]⟩
          | false => match !memb σ.nl σ.nn && !memb σ.nl (σ.nn + 1) with
            | true => .leaf ⟨some (.one (.slc id (.nam (σ.nn + 1)) (.lit (h.getD n - lo0 l)) (.nam σ.nn))), [.k id, .n σ.nn, .n (σ.nn + 1)], [.nm σ.nn, .nm (σ.nn + 1)]⟩
            | false => .fail
      | false => .fail
    | none => .fail
  | _ => .fail
def sliceX (tb : Tb) (σ : St) (t : TypeId) (v : Sv) (lo hi mx : Option Operand) : Tree OpE := match mx with
  | none => bndT σ lo (lenB tb t v) fun l => bndT σ hi (lenB tb t v) fun h => match v with
    | .one (.slc id (.lit 0) (.lit n) (.nam c)) => sliceN tb σ t id n c l h
    | v => sliceC tb t v l h
  | some _ => .fail
theorem sliceN_ok (hT : TbOk P tb) {t : TypeId} {x : Operand} {lo hi : Option Operand} {id n c : Nat} (ho : o.op = .slice t x lo hi none) (hx : evO σ x = some (.one (.slc id (.lit 0) (.lit n) (.nam c)))) {l h : Option Nat} (hl : BndIs σ lo l) (hh : BndIs σ hi h) : TreeOk P σ o (sliceN tb σ t id n c l h) := by
  have sees : ∀ {s : Sto} {e : Env} {a : Act}, (∀ x ∈ o.op.operands, Sees σ s e a x) → ∀ y, (lo = some y ∨ hi = some y) → Sees σ s e a y := by
    intro s e a hh y hy
    refine hh y ?_
    rw [ho]
    rcases hy with rfl | rfl <;> simp [Op.operands]
  unfold sliceN
  split
  · rename_i el hu
    split
    · rename_i ti hti
      split
      · rename_i hb
        simp only [Bool.and_eq_true, Nat.ble_eq] at hb
        obtain ⟨hc, h1, h2⟩ := hb
        have run : ∀ (C : Ctx) (s : Sto) (e : Env) (a : Act) (w : World), Hp C e s w → (∀ x ∈ o.op.operands, Sees σ s e a x) → s (.k id) = look σ (.k id) → (execOp a.eval o).run P w = .ok (.value (.slice (if e.nm c = lo0 l then some (e.ad id 0) else some ((e.ad id 0).add (lo0 l * ti.size))) (h.getD n - lo0 l) (e.nm c - lo0 l))) w ∧ kn s id ∧ knn s c ∧ n ≤ e.nm c := by
          intro C s e a w hp hs hk
          obtain ⟨x1, x2⟩ := hs x (by rw [ho]; simp [Op.operands]) _ hx
          obtain ⟨k1, k2⟩ := capOf_le hc hp hk
          refine ⟨?_, x2.1, k2, k1⟩
          unfold execOp
          simp only [ho]
          rw [x1]
          refine runV ?_
          simp only [Instr.sliceAt, Sem.run_bind, run_und hT hu, Result.andThen_ok, Sv.den, Cv.den, Instr.slice, Sn.den, Option.map_none]
          rw [bnds_run hl hh (sees hs) true n (e.nm c) h1 (by omega)]
          simp only [Result.andThen_ok, run_size hT hti, Sem.run_pure, Option.map_some]
        split
        · rename_i h0
          have h0 := beq_iff'.1 h0
          refine TreeOk.leaf ?_
          intro C e s a w hp hs hlk
          obtain ⟨r, k1, k2, k3⟩ := run C s e a w hp hs (hlk _ (by simp))
          refine ⟨_, e, w, r, Agree.refl _ _, hp, ?_, k1, trivial, trivial, k2⟩
          simp only [Sv.den, Cv.den, Sn.den, h0, Nat.zero_mul, Nat.sub_zero]
          split
          · rfl
          · simp [Addr.add]
        · rename_i h0
          have h0 : lo0 l ≠ 0 := fun he => by rw [he] at h0; cases h0
          split
          · rename_i hb2
            simp only [Bool.and_eq_true, blt_iff, Bool.not_eq_true'] at hb2
            obtain ⟨hlt, hfr⟩ := hb2
            refine TreeOk.leaf ?_
            intro C e s a w hp hs hlk
            obtain ⟨r, k1, k2, k3⟩ := run C s e a w hp hs (hlk _ (by simp))
            have hnn : s (.n σ.nn) = none := by
              rw [hlk _ (by simp)]
              simp only [look, hfr, Bool.false_eq_true, if_false]
            obtain ⟨q1, q2⟩ := hp.name hnn (e.nm c - lo0 l)
            refine ⟨_, e.setNm σ.nn (e.nm c - lo0 l), w, r, q2, q1, ?_, ?_⟩
            · rw [if_neg (by omega)]
              simp only [Sv.den, Cv.den, Sn.den, ad_add, Nat.zero_add]
              have : (e.setNm σ.nn (e.nm c - lo0 l)).nm σ.nn = e.nm c - lo0 l := by simp [Env.setNm]
              rw [this]
              rfl
            · refine ⟨?_, trivial, trivial, ?_⟩
              · exact Sub.nm.1 _ k1
              · show knn _ _
                unfold knn; simp [upds, Wr.upd, Wr.fn]
          · split
            · rename_i hb2
              simp only [Bool.and_eq_true, Bool.not_eq_true'] at hb2
              obtain ⟨hf1, hf2⟩ := hb2
              refine TreeOk.leaf ?_
              intro C e s a w hp hs hlk
              obtain ⟨r, k1, k2, k3⟩ := run C s e a w hp hs (hlk _ (by simp))
              have hn1 : s (.n σ.nn) = none := by
                rw [hlk _ (by simp)]
                simp only [look, hf1, Bool.false_eq_true, if_false]
              have hn2 : s (.n (σ.nn + 1)) = none := by
                rw [hlk _ (by simp)]
                simp only [look, hf2, Bool.false_eq_true, if_false]
              obtain ⟨q1, q2⟩ := hp.name hn1 (e.nm c - lo0 l)
              have hn3 : (Wr.nm σ.nn).upd s (.n (σ.nn + 1)) = none := by
                simp [Wr.upd, Wr.fn, hn2]
              obtain ⟨p1, p2⟩ := q1.name hn3 (if e.nm c = lo0 l then 0 else lo0 l * ti.size)
              have hA : Agree s e ((e.setNm σ.nn (e.nm c - lo0 l)).setNm (σ.nn + 1) (if e.nm c = lo0 l then 0 else lo0 l * ti.size)) := by
                refine ⟨fun i hi => ?_, fun d hd => ?_⟩
                · rw [p2.1 i (Sub.nm.1 i hi), q2.1 i hi]
                · rw [p2.2 d (Sub.nm.2 d hd), q2.2 d hd]
              refine ⟨_, _, w, r, hA, p1, ?_, ?_⟩
              · have e1 : ((e.setNm σ.nn (e.nm c - lo0 l)).setNm (σ.nn + 1) (if e.nm c = lo0 l then 0 else lo0 l * ti.size)).nm (σ.nn + 1) = (if e.nm c = lo0 l then 0 else lo0 l * ti.size) := by simp [Env.setNm]
                have e2 : ((e.setNm σ.nn (e.nm c - lo0 l)).setNm (σ.nn + 1) (if e.nm c = lo0 l then 0 else lo0 l * ti.size)).nm σ.nn = e.nm c - lo0 l := by simp [Env.setNm]
                simp only [Sv.den, Cv.den, Sn.den, e1, e2]
                split
                · rfl
                · rw [ad_add, Nat.zero_add]
                  rfl
              · refine ⟨?_, ?_, trivial, ?_⟩
                · exact Sub.nm.1 _ (Sub.nm.1 _ k1)
                · show knn _ _
                  unfold knn; simp [upds, Wr.upd, Wr.fn]
                · show knn _ _
                  unfold knn; simp [upds, Wr.upd, Wr.fn]
            · exact TreeOk.fail
      · exact TreeOk.fail
    · exact TreeOk.fail
  · exact TreeOk.fail
theorem sliceX_ok (hT : TbOk P tb) {t : TypeId} {x : Operand} {lo hi mx : Option Operand} {v : Sv} (ho : o.op = .slice t x lo hi mx) (hx : evO σ x = some v) : TreeOk P σ o (sliceX tb σ t v lo hi mx) := by
  unfold sliceX
  split
  · refine bndT_ok fun l hl => bndT_ok fun h hh => ?_
    split
    · exact sliceN_ok hT ho hx hl hh
    · exact sliceC_ok hT ho hx hl hh
  · exact TreeOk.fail
end
end Sx
end Go.Proofs.Ytladkknbkgomfaa

/-
  append to a row whose length is not written out.
-/
set_option linter.unusedSimpArgs false
set_option linter.unusedVariables false
namespace Go.Proofs.Ytladkknbkgomfaa
namespace Sx
open Go.RowKit

section
variable {P : Program} {σ : St} {o : Oper} {tb : Tb}

/-- Values that hold no names. -/
def Cv.freeB0 : Cv → Bool
  | .ptr _ _ => false
  | .slc _ _ _ _ => false
  | .fn _ caps => caps.isEmpty
  | _ => true
theorem Cv.free0_den {c : Cv} (h : c.freeB0 = true) (e e' : Env) : c.den e = c.den e' := by
  cases c with
  | ptr id off => cases h
  | slc id off l c => cases h
  | fn f caps => obtain rfl := List.isEmpty_iff.1 h; rfl
  | _ => rfl
/-- What an element's cells hold, behind those that were there. -/
def appF (n : Nat) (f : Nat → Value) (news : List Value) (o : Nat) : Value := match Nat.blt o n with
  | true => f o
  | false => (news[o - n]?).getD undef
def newOqE (σ : St) (el size need : Nat) (f : Nat → Value) (rl : List Loc) (pre : List Wr) : OpE :=
  ⟨some (.one (.slc σ.nx (.lit 0) (.opq need) (.nam σ.nn))), .k σ.nx :: .n σ.nn :: rl, pre ++ [.nm σ.nn, .new σ.nx (.oq el false (need * size) f (some (σ.nn, size)))]⟩
/-- The slice that is appended to: a row of its own. -/
def appendO (tb : Tb) (σ : St) (t t' : TypeId) (id n c : Nat) (vx : Sv) : Tree OpE := match Nat.beq t t', tb.und t with
  | true, some (.slice el) => match tb.info el with
    | some ti => match ti.zero with
      | some z => match Nat.beq z.cells.size ti.size && (Nat.blt 0 ti.size && freshB σ) with
        | true => match slCells σ ti.size vx with
          | some (id2, off2, k, news) => match Nat.blt 0 k && (news.all Cv.plainB && news.all Cv.freeB0) with
            | true => match alook σ.bk id with
              | some (.oq el' false m f (some (c', es))) => match Nat.beq el' el && (Nat.beq c c' && Nat.beq es ti.size) with
                | true => .must (decide (n * ti.size ≤ m)) (.must (decide ((n + k) * ti.bytes ≤ 140737488355328 ∧ n + k ≤ 140737488355328)) (.leaf (newOqE σ el ti.size (n + k) (appF (n * ti.size) f (news.map (·.den ⟨fun _ => (0, 0), fun _ => 0⟩))) (.k id :: .k id2 :: cellLocs id2 off2 (k * ti.size)) [.new id .gone])))
                | false => .fail
              | _ => .fail
            | false => .fail
          | none => .fail
        | false => .fail
      | none => .fail
    | none => .fail
  | _, _ => .fail
/-- The row that is appended to. -/
def rowQ (σ : St) : Sv → Option (Nat × Nat × Nat)
  | .one (.slc id (.lit 0) (.opq n) (.nam c)) => match alook σ.bk id with
    | some (.oq _ false _ _ (some _)) => some (id, n, c)
    | _ => none
  | _ => none
def appendX (tb : Tb) (σ : St) (t t' : TypeId) (vs vx : Sv) : Tree OpE := match rowQ σ vs with
  | some (id, n, c) => appendO tb σ t t' id n c vx
  | none => appendE tb σ t t' vs vx
theorem rowQ_at {v : Sv} {id n c : Nat} (h : rowQ σ v = some (id, n, c)) : v = .one (.slc id (.lit 0) (.opq n) (.nam c)) := by
  unfold rowQ at h
  split at h
  · split at h
    · simp only [Option.some.injEq, Prod.mk.injEq] at h
      obtain ⟨rfl, rfl, rfl⟩ := h
      rfl
    · cases h
  · cases h
/-- A new row, behind whatever has been forgotten. -/
theorem newOq_ok {el size need : Nat} {f : Nat → Value} {rl : List Loc} {pre : List Wr} (hfr : freshB σ = true)
    (h : ∀ (C : Ctx) (e : Env) (s : Sto) (a : Act) (w : World), Hp C e s w → (∀ x ∈ o.op.operands, Sees σ s e a x) → (∀ l ∈ rl, s l = look σ l) → s (.k σ.nx) = none → s (.n σ.nn) = none →
      ∃ g cap w' xs, (execOp a.eval o).run P w = .ok (.value (.slice (some ⟨g, 0, none⟩) need cap)) w' ∧
        (∃ s1, s1 = upds s pre ∧ Sub s s1 ∧ s1 (.k σ.nx) = none ∧ s1 (.n σ.nn) = none ∧ ((g = w.heap.size ∧ ∃ w1, w' = w1.alloc (.cells xs el) ∧ w1.heap.size = w.heap.size ∧ Hp C e s1 w1) ∨
          (Hp C e s1 w' ∧ w'.heap[g]? = some (.cells xs el (0, 0)) ∧ C.M g ∧ ∀ i b', s1 (.k i) = some (.bk b') → b'.live = true → (e.pl i).1 ≠ g))) ∧
        (∀ (j : Nat), j < need * size → xs[j]? = some (f j)) ∧ xs.size = cap * size ∧ need * size ≤ xs.size) : OpOk P σ o (newOqE σ el size need f rl pre) := by
  intro C e s a w hp hx hl
  simp only [newOqE] at hl ⊢
  unfold freshB at hfr
  rw [Bool.and_eq_true] at hfr
  have hk : s (.k σ.nx) = none := by
    rw [hl _ (by simp)]
    simp only [look]
    rw [show alook σ.bk σ.nx = none by simpa using hfr.1]; rfl
  have hn : s (.n σ.nn) = none := by
    rw [hl _ (by simp)]
    simp only [look]
    rw [if_neg (by simpa using hfr.2)]
  obtain ⟨g, cap, w', xs, h1, ⟨s1, hs1, hS, hk1, hn1, h2⟩, h3, h4, h5⟩ := h C e s a w hp hx (fun l hm => hl l (by simp [hm])) hk hn
  have hfin : ∀ (e2 : Env), upds s (pre ++ [.nm σ.nn, .new σ.nx (.oq el false (need * size) f (some (σ.nn, size)))]) = (Wr.new σ.nx (.oq el false (need * size) f (some (σ.nn, size)))).upd ((Wr.nm σ.nn).upd s1) := by
    intro _
    unfold upds
    rw [List.foldl_append, hs1]
    rfl
  have knn1 : knn ((Wr.nm σ.nn).upd s1) σ.nn := by unfold knn; simp [Wr.upd, Wr.fn]
  have hk2 : (Wr.nm σ.nn).upd s1 (.k σ.nx) = none := hk1
  have fits : ∀ (e1 : Env), e1.nm σ.nn = cap → Fits e1 ((Wr.nm σ.nn).upd s1) xs (.oq el false (need * size) f (some (σ.nn, size))) := by
    intro e1 he
    refine ⟨h3, fun c' es hce => ?_⟩
    obtain ⟨rfl, rfl⟩ := Prod.mk.inj (Option.some.inj hce)
    exact ⟨knn1, by rw [he]; exact h4, h5⟩
  have fin : ∀ (e1 : Env), Agree s1 e e1 → e1.nm σ.nn = cap → Hp C (e1.setPl σ.nx (g, 0)) ((Wr.new σ.nx (.oq el false (need * size) f (some (σ.nn, size)))).upd ((Wr.nm σ.nn).upd s1)) w' → Agree ((Wr.nm σ.nn).upd s1) e1 (e1.setPl σ.nx (g, 0)) →
      ∃ nx e' w'', (execOp a.eval o).run P w = .ok nx w'' ∧ Agree s e e' ∧ Hp C e' (upds s (pre ++ [.nm σ.nn, .new σ.nx (.oq el false (need * size) f (some (σ.nn, size)))])) w'' ∧
        ValIs e' (upds s (pre ++ [.nm σ.nn, .new σ.nx (.oq el false (need * size) f (some (σ.nn, size)))])) (some (.one (.slc σ.nx (.lit 0) (.opq need) (.nam σ.nn)))) nx := by
    intro e1 hA he hhp hA2
    have hA3 : Agree s e (e1.setPl σ.nx (g, 0)) := by
      refine ⟨fun i hi => ?_, fun c hc => ?_⟩
      · rw [hA2.1 i (Sub.nm.1 i (hS.1 i hi)), hA.1 i (hS.1 i hi)]
      · rw [hA2.2 c (Sub.nm.2 c (hS.2 c hc)), hA.2 c (hS.2 c hc)]
    refine ⟨_, e1.setPl σ.nx (g, 0), w', h1, hA3, by rw [hfin e]; exact hhp, ?_, ?_⟩
    · simp only [Sv.den, Cv.den, Sn.den]
      rw [show (e1.setPl σ.nx (g, 0)).ad σ.nx 0 = ⟨g, 0, none⟩ from setPl_ad e1 σ.nx g 0]
      rw [show (e1.setPl σ.nx (g, 0)).nm σ.nn = cap from he]
    · rw [hfin e]
      refine ⟨?_, trivial, trivial, ?_⟩
      · unfold kn; rw [new_k, if_pos rfl]; rfl
      · exact knn1
  rcases h2 with ⟨rfl, w1, rfl, hsz, hp1⟩ | ⟨hp1, hg, hM, hfree⟩
  · obtain ⟨q1, q2⟩ := hp1.name hn1 cap
    have he : (e.setNm σ.nn cap).nm σ.nn = cap := by simp [Env.setNm]
    obtain ⟨r1, r2⟩ := q1.alloc hk2 (fits _ he)
    rw [hsz] at r1 r2
    exact fin _ q2 he r1 r2
  · obtain ⟨q1, q2⟩ := hp1.name hn1 cap
    have he : (e.setNm σ.nn cap).nm σ.nn = cap := by simp [Env.setNm]
    obtain ⟨r1, r2⟩ := q1.adopt hk2 hg hM (fun i b' hi hb => by
      have hi' : s1 (.k i) = some (.bk b') := hi
      have := hfree i b' hi' hb
      rwa [show (e.setNm σ.nn cap).pl i = e.pl i from rfl]) (fits _ he)
    exact fin _ q2 he r1 r2
theorem appF_lt {n : Nat} {f : Nat → Value} {news : List Value} {o : Nat} (h : o < n) : appF n f news o = f o := by unfold appF; rw [blt_iff.2 h]
theorem appF_ge {n : Nat} {f : Nat → Value} {news : List Value} {o : Nat} (h : n ≤ o) : appF n f news o = (news[o - n]?).getD undef := by
  unfold appF
  cases hb : Nat.blt o n with
  | true => have := blt_iff.1 hb; omega
  | false => rfl
/-- The cells of the longer row. -/
theorem appF_row {n k : Nat} {f : Nat → Value} {news : List Value} (hn : news.length = k) : (List.range n).map f ++ news = (List.range (n + k)).map (appF n f news) := by
  apply List.ext_getElem?
  intro j
  by_cases h1 : j < n
  · rw [List.getElem?_append_left (by simpa using h1), List.getElem?_map, List.getElem?_range h1, List.getElem?_map, List.getElem?_range (by omega)]
    simp only [Option.map_some]
    rw [appF_lt h1]
  · rw [List.getElem?_append_right (by simp; omega)]
    simp only [List.length_map, List.length_range]
    by_cases h2 : j < n + k
    · rw [List.getElem?_map, List.getElem?_range h2, Option.map_some, appF_ge (by omega), List.getElem?_eq_getElem (by omega)]
      rfl
    · rw [List.getElem?_eq_none (by omega), List.getElem?_eq_none (by simp; omega)]
theorem appendO_ok (hT : TbOk P tb) {x y : Operand} {t t' : TypeId} {id n c : Nat} {vx : Sv} (ho : o.op = .call { callee := .builtin .append, args := #[x, y], argTypes := #[t, t'] }) (hx : evO σ x = some (.one (.slc id (.lit 0) (.opq n) (.nam c)))) (hy : evO σ y = some vx) : TreeOk P σ o (appendO tb σ t t' id n c vx) := by
  unfold appendO
  split
  · rename_i el htt hu
    obtain rfl := beq_iff'.1 htt
    split
    · rename_i ti hti
      split
      · rename_i z hz
        split
        · rename_i hb
          simp only [Bool.and_eq_true, beq_iff', blt_iff] at hb
          obtain ⟨hzs, hsz, hfr⟩ := hb
          split
          · rename_i id2 off2 k news hnews
            split
            · rename_i hb2
              simp only [Bool.and_eq_true, blt_iff] at hb2
              obtain ⟨hk0, hpl, hfree⟩ := hb2
              obtain ⟨⟨cap2, rfl⟩, hlen2, _⟩ := slCells_at hnews
              have hone : ∀ e, ∀ u ∈ news.map (·.den e), Value.oneCell' u = true := fun e u hu' => by
                obtain ⟨c, hc, rfl⟩ := List.mem_map.1 hu'
                exact (Cv.plain_cell (List.all_eq_true.1 hpl c hc) e).1
              have hden : ∀ e : Env, news.map (·.den e) = news.map (·.den ⟨fun _ => (0, 0), fun _ => 0⟩) := fun e => List.map_congr_left fun c hc => Cv.free0_den (List.all_eq_true.1 hfree c hc) e _
              have ops : ∀ (s : Sto) (e : Env) (a : Act) (w : World), (∀ x ∈ o.op.operands, Sees σ s e a x) → (execOp a.eval o).run P w = ((do pure (.value (← Builtin.append_ #[t, t] o.type #[.slice (some (e.ad id 0)) n (e.nm c), .slice (some (e.ad id2 off2)) k (cap2.den e)])) : Sem Next)).run P w := by
                intro s e a w hh
                obtain ⟨x1, _⟩ := hh x (by rw [ho]; simp [Op.operands, Call.operands]) _ hx
                obtain ⟨y1, _⟩ := hh y (by rw [ho]; simp [Op.operands, Call.operands]) _ hy
                rw [run_builtin ho]
                simp only [List.map_toArray, List.map_cons, List.map_nil, x1, y1]
                rfl
              split
              · rename_i el' m f c' es hb1
                split
                · rename_i hcc
                  simp only [Bool.and_eq_true, beq_iff'] at hcc
                  obtain ⟨rfl, rfl, rfl⟩ := hcc
                  refine TreeOk.must fun hm => TreeOk.must fun hby => ?_
                  have hm' := of_decide_eq_true hm
                  obtain ⟨hby1, hby2⟩ := of_decide_eq_true hby
                  refine TreeOk.leaf (newOq_ok hfr fun C e s a w hp hh hl hk hn => ?_)
                  rw [← hden e]
                  have hkid : s (.k id) = some (.bk (.oq el' false m f (some (c, ti.size)))) := by
                    rw [hl _ (by simp)]
                    simp only [look, hb1]; rfl
                  have hne : σ.nx ≠ id := fun h => by rw [h, hkid] at hk; cases hk
                  obtain ⟨q1, q2⟩ := slCells_read hnews hp (fun l hm => hl l (List.mem_cons_of_mem _ (List.mem_cons_of_mem _ hm)))
                  have r2 : ∀ (j : Nat) (x : Value), ((List.range (n * ti.size)).map f)[j]? = some x → w.cell? ((e.ad id 0).add j) = some x := by
                    intro j x hj
                    have hlt : j < n * ti.size := by have := (List.getElem?_eq_some_iff.1 hj).1; simpa using this
                    rw [List.getElem?_map, List.getElem?_range hlt] at hj
                    obtain rfl : f j = x := by simpa using hj
                    rw [ad_add, Nat.zero_add]
                    exact (hp.oq id _ _ _ f _ hkid j (by omega)).1
                  have hs1k : (Wr.new id .gone).upd s (.k σ.nx) = none := by rw [gone_k, if_neg hne]; exact hk
                  obtain ⟨_, hp2, cur, hcur, hcsz, _⟩ := hp.cp id _ c ti.size hkid rfl
                  simp only [BI.t] at hcur
                  have had0 : e.ad id 0 = ⟨(e.pl id).1, 0, none⟩ := by unfold Env.ad; rw [hp2]
                  have hrow : (List.range (n * ti.size)).map f ++ news.map (·.den e) = (List.range ((n + k) * ti.size)).map (appF (n * ti.size) f (news.map (·.den e))) := by
                    rw [appF_row (k := k * ti.size) (by simpa using hlen2), Nat.add_mul]
                  by_cases hroom : n + k ≤ e.nm c
                  · -- there is room
                    have hsize : n * ti.size + (news.map (·.den e)).length ≤ cur.size := by
                      rw [List.length_map, hlen2, hcsz, ← Nat.add_mul]; exact Nat.mul_le_mul_right _ hroom
                    have hrun := run_append_room (P := P) w t o.type el' ti (hT.und hu) (hT.info hti) (e.pl id).1 n (e.nm c) cur hcur (e.ad id2 off2) k (cap2.den e) (news.map (·.den e)) (by simpa using hlen2) q2 (hone e) hroom hsize
                    have htake : cur.toList.take (n * ti.size) = (List.range (n * ti.size)).map f := by
                      apply List.ext_getElem?
                      intro j
                      by_cases hj : j < n * ti.size
                      · have h1 := r2 j (f j) (by rw [List.getElem?_map, List.getElem?_range hj]; rfl)
                        rw [had0, Addr.add_lit, Nat.zero_add] at h1
                        simp only [World.cell?, hcur] at h1
                        rw [List.getElem?_take_of_lt hj, List.getElem?_map, List.getElem?_range hj]
                        simpa using h1
                      · rw [List.getElem?_eq_none (by simp; omega), List.getElem?_eq_none (by simp; omega)]
                    obtain ⟨XS, hXS⟩ : ∃ XS : Array Value, XS = (cur.toList.take (n * ti.size) ++ news.map (·.den e) ++ cur.toList.drop (n * ti.size + (news.map (·.den e)).length)).toArray := ⟨_, rfl⟩
                    rw [← hXS] at hrun
                    refine ⟨(e.pl id).1, e.nm c, w.setRow (e.pl id).1 XS, XS, (ops s e a w hh).trans (runV (by rw [had0]; exact hrun)), ⟨_, rfl, Sub.new, hs1k, hn, Or.inr ⟨hp.trash hkid rfl rfl rfl rfl (setRow_size _ _ _) (fun k hk' => setRow_other w _ _ _ hk'), setRow_heap w _ _ _ _ _ hcur, hp.mu id _ hkid rfl, ?_⟩⟩, ?_, ?_, ?_⟩
                    · intro i b' hi hlv
                      have hi : (Wr.new id .gone).upd s (.k i) = some (.bk b') := hi
                      rw [gone_k] at hi
                      by_cases hii : i = id
                      · rw [if_pos hii] at hi
                        obtain rfl : BI.gone = b' := by simpa using hi
                        cases hlv
                      · rw [if_neg hii] at hi
                        exact (hp.inj id i _ b' hkid hi rfl hlv (Ne.symm hii)).symm
                    · intro j hj
                      rw [hXS, htake, hrow]
                      simp only [List.getElem?_toArray]
                      rw [List.getElem?_append_left (by simpa using hj), List.getElem?_map, List.getElem?_range hj]
                      rfl
                    · rw [hXS]
                      simp only [List.size_toArray, List.length_append, List.length_take, List.length_drop, Array.length_toList]
                      omega
                    · rw [hXS]
                      simp only [List.size_toArray, List.length_append, List.length_take, List.length_drop, Array.length_toList, List.length_map] at hsize ⊢
                      have := Nat.add_mul n k ti.size
                      omega
                  · have hlt : e.nm c < n + k := by omega
                    have hrun := run_append_grow (P := P) w t o.type el' ti z (hT.und hu) (hT.info hti) hz (e.ad id 0) n (e.nm c) ((List.range (n * ti.size)).map f) (by simp) r2 (e.ad id2 off2) k (cap2.den e) (news.map (·.den e)) (by simpa using hlen2) q2 hlt (by omega) (growslice_fits hlt hby1)
                    have hap : ((List.range (n * ti.size)).map f).toArray ++ (news.map (·.den e)).toArray = ((List.range ((n + k) * ti.size)).map (appF (n * ti.size) f (news.map (·.den e)))).toArray := by
                      rw [← hrow]; simp
                    rw [hap] at hrun
                    have hge := size_ge (w := w) (need := n + k) (old := e.nm c) (e := el')
                    refine ⟨w.heap.size, grownCap w (n + k) (e.nm c) el', _, _, (ops s e a w hh).trans (runV hrun), ⟨_, rfl, Sub.new, hs1k, hn, Or.inl ⟨rfl, w.drew, rfl, rfl, (hp.gone id).drew⟩⟩, fun j hj => ?_, ?_, ?_⟩
                    · rw [Array.getElem?_append_left (by simpa using hj)]
                      simp only [List.getElem?_toArray, List.getElem?_map, List.getElem?_range hj, Option.map_some]
                    · rw [Array.size_append, size_zeroCells, hzs]
                      simp only [List.size_toArray, List.length_map, List.length_range]
                      rw [← Nat.add_mul, show n + k + (grownCap w (n + k) (e.nm c) el' - (n + k)) = grownCap w (n + k) (e.nm c) el' by omega]
                    · rw [Array.size_append]
                      simp
                · exact TreeOk.fail
              · exact TreeOk.fail
            · exact TreeOk.fail
          · exact TreeOk.fail
        · exact TreeOk.fail
      · exact TreeOk.fail
    · exact TreeOk.fail
  · exact TreeOk.fail
theorem appendX_ok (hT : TbOk P tb) {x y : Operand} {t t' : TypeId} {vs vx : Sv} (ho : o.op = .call { callee := .builtin .append, args := #[x, y], argTypes := #[t, t'] }) (hx : evO σ x = some vs) (hy : evO σ y = some vx) : TreeOk P σ o (appendX tb σ t t' vs vx) := by
  unfold appendX
  split
  · rename_i id n c hr
    obtain rfl := rowQ_at hr
    exact appendO_ok hT ho hx hy
  · exact appendE_ok hT ho hx hy
end
end Sx
end Go.Proofs.Ytladkknbkgomfaa

/-
  clear, of a part of a row that is written out.
-/
set_option linter.unusedSimpArgs false
set_option linter.unusedVariables false
namespace Go.Proofs.Ytladkknbkgomfaa
namespace Sx
open Go.RowKit
section
variable {P : Program} {σ : St} {o : Oper} {tb : Tb}
def clearS (tb : Tb) (σ : St) (t : TypeId) (v : Sv) : Tree OpE := match tb.und t, v with
  | some (.slice el), .one (.slc id (.lit off) (.lit (n + 1)) _) => match zeroL tb el, alook σ.bk id with
    | some [z], some (.ar _ false l _) => match Nat.ble (off + (n + 1)) l.length && z.plainB with
      | true => .leaf ⟨some (.tup []), [.k id], cellWrs id off (List.replicate (n + 1) z)⟩
      | false => .fail
    | _, _ => .fail
  | some (.slice _), .one (.slc _ _ (.lit 0) _) => valT (.tup [])
  | some (.slice _), .one (.val (.slice none _ _)) => valT (.tup [])
  | _, _ => .fail
theorem zeroCells_one (z : Value) (n : Nat) : (Builtin.zeroCells #[z] n).toList = List.replicate n z := by
  unfold Builtin.zeroCells
  apply List.ext_getElem?
  intro i
  rw [Array.toList_map, List.getElem?_map, List.getElem?_replicate]
  simp only [List.size_toArray, List.length_cons, List.length_nil, Nat.zero_add, Nat.mul_one, Array.toList_range]
  by_cases h : i < n
  · rw [List.getElem?_range h, if_pos h]
    simp [Nat.mod_one]
  · rw [List.getElem?_eq_none (by simpa using h), if_neg h]; rfl
theorem clearS_ok (hT : TbOk P tb) {x : Operand} {t : TypeId} {v : Sv} (ho : o.op = .call { callee := .builtin .clear, args := #[x], argTypes := #[t] }) (hx : evO σ x = some v) : TreeOk P σ o (clearS tb σ t v) := by
  have go : (∀ (e : Env) (w : World), (Builtin.clear_ #[t] o.type #[v.den e]).run P w = .ok (.tuple #[]) w) → TreeOk P σ o (valT (.tup [])) := by
    intro h
    refine TreeOk.val fun s e a w hh => ⟨?_, fun p hp => by cases hp⟩
    obtain ⟨x1, _⟩ := hh x (by rw [ho]; simp [Op.operands, Call.operands]) _ hx
    rw [run_builtin ho]
    simp only [List.map_toArray, List.map_cons, List.map_nil, x1]
    exact runV (h e w)
  unfold clearS
  split
  · rename_i el id off n cap hu
    split
    · rename_i z t' l cp hz hb
      split
      · rename_i hc
        simp only [Bool.and_eq_true] at hc
        obtain ⟨hle, hpl⟩ := hc
        rw [Nat.ble_eq] at hle
        refine TreeOk.leaf fun C e s a w hp hh hl => ?_
        obtain ⟨x1, x2⟩ := hh x (by rw [ho]; simp [Op.operands, Call.operands]) _ hx
        have h1 : s (.k id) = some (.bk (.ar t' false l.length cp)) := by rw [hl _ (by simp)]; simp only [look, hb]; rfl
        obtain ⟨zv, z1, z2, z3⟩ := zeroL_run hT hz w
        have hzc : zv.cells = #[z.den e] := by rw [z2 e]; rfl
        obtain ⟨w', k1, k2⟩ := storeCells_run (P := P) off (List.replicate (n + 1) z) 0 s w hp h1 (by simp; omega) (fun c hc => by
          obtain rfl := (List.mem_replicate.1 hc).2
          exact z3 s _ (by simp)) (fun c hc => by
          obtain rfl := (List.mem_replicate.1 hc).2
          exact hpl)
        refine ⟨.value (.tuple #[]), e, w', ?_, Agree.refl _ _, by simpa using k2, rfl, fun p hp => by cases hp⟩
        rw [run_builtin ho]
        simp only [List.map_toArray, List.map_cons, List.map_nil, x1]
        refine runV ?_
        show (Builtin.clear_ #[t] o.type #[.slice (some (e.ad id off)) (n + 1) (cap.den e)]).run P w = _
        have hst : (storeCells (e.ad id off) (Builtin.zeroCells #[z.den e] (n + 1)).toList 0).run P w = .ok () w' := by
          rw [zeroCells_one, ← k1, List.map_replicate]
        simp [Builtin.clear_, run_und hT hu, z1, hzc, hst]
      · exact TreeOk.fail
    · exact TreeOk.fail
  · rename_i el id off cap hu
    exact go fun e w => by simp [Builtin.clear_, run_und hT hu, Sv.den, Cv.den, Sn.den]
  · rename_i el q n hu
    exact go fun e w => by simp [Builtin.clear_, run_und hT hu, Sv.den, Cv.den]
  · exact TreeOk.fail
end
end Sx
end Go.Proofs.Ytladkknbkgomfaa
