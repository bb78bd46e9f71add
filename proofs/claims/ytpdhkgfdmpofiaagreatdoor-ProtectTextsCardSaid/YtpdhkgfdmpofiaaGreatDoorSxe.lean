/-
  What each operation comes to: the ones that look at no memory.
-/
import Derived.Test.YtpdhkgfdmpofiaaGreatDoorSxv
import Derived.Laws.Tables
import Derived.Laws.Slices
set_option linter.unusedSimpArgs false
set_option linter.unusedVariables false
namespace Go.Proofs.YtpdhkgfdmpofiaaGreatDoor
namespace Sx
open Go.RowKit

section
variable {P : Program} {σ : St} {o : Oper} {tb : Tb}

theorem runV {x : Sem Value} {w w' : World} {v : Value} (h : x.run P w = .ok v w') : (do pure (Next.value (← x)) : Sem Next).run P w = .ok (.value v) w' := by
  rw [Sem.run_bind, h]; rfl
theorem runU {x : Sem Unit} {w w' : World} (h : x.run P w = .ok () w') : (do x; pure Next.skip : Sem Next).run P w = .ok .skip w' := by
  rw [Sem.run_bind, h]; rfl

/-- A pure operation on values that are told. -/
theorem TreeOk.val {v : Sv} (h : ∀ (s : Sto) (e : Env) (a : Act) (w : World), (∀ x ∈ o.op.operands, Sees σ s e a x) → (execOp a.eval o).run P w = .ok (.value (v.den e)) w ∧ v.sc s) : TreeOk P σ o (valT v) :=
  TreeOk.leaf (OpOk.pure fun _ e s a w _ hx _ => h s e a w hx)

/-! move, assign -/
theorem movS_ok {x : Operand} (ho : o.op = .move x ∨ o.op = .assign x) : TreeOk P σ o (optT ((evO σ x).map valT)) := by
  refine TreeOk.opt fun t ht => ?_
  obtain ⟨v, hv, rfl⟩ := Option.map_eq_some_iff.1 ht
  refine TreeOk.val fun s e a w hx => ?_
  have hm : x ∈ o.op.operands := by rcases ho with h | h <;> rw [h] <;> simp [Op.operands]
  obtain ⟨h1, h2⟩ := hx x hm v hv
  refine ⟨?_, h2⟩
  rcases ho with h | h <;> (unfold execOp; simp only [h]; rw [h1]; rfl)

/-! if one of two -/
def Cv.ite (c : Bool) : Cv → Cv → Option Cv
  | .b x _, .b y _ => some (.b (bif c then x else y) false)
  | .i k x _, .i k' y _ => if k = k' then some (.i k (bif c then x else y) false) else none
  | .s x _, .s y _ => some (.s (bif c then x else y) false)
  | _, _ => none
def itesL (c : Bool) : List Cv → List Cv → Option (List Cv)
  | [], [] => some []
  | x :: xs, y :: ys => match Cv.ite c x y, itesL c xs ys with
    | some z, some zs => some (z :: zs)
    | _, _ => none
  | _, _ => none
def itesT (c : Bool) : List (Bool × List Cv) → List (Bool × List Cv) → Option (List (Bool × List Cv))
  | [], [] => some []
  | (a, x) :: xs, (b, y) :: ys => match a == b, itesL c x y, itesT c xs ys with
    | true, some z, some zs => some ((a, z) :: zs)
    | _, _, _ => none
  | _, _ => none
def Sv.ite (c : Bool) : Sv → Sv → Option Sv
  | .one x, .one y => (Cv.ite c x y).map .one
  | .agg xs, .agg ys => (itesL c xs ys).map .agg
  | .tup xs, .tup ys => (itesT c xs ys).map .tup
  | _, _ => none
theorem Cv.ite_den {c : Bool} {x y z : Cv} (h : Cv.ite c x y = some z) : (∀ e, z.den e = (if c = true then x else y).den e) ∧ ∀ s, z.sc s := by
  cases x <;> cases y <;> simp only [Cv.ite] at h <;> first
    | cases h; done
    | (obtain rfl := Option.some.inj h; refine ⟨fun e => ?_, fun s => trivial⟩; cases c <;> rfl)
    | (split at h
       · rename_i hk; subst hk; obtain rfl := Option.some.inj h; refine ⟨fun e => ?_, fun s => trivial⟩; cases c <;> rfl
       · cases h)
theorem itesL_den {c : Bool} : ∀ {xs ys zs : List Cv}, itesL c xs ys = some zs → (∀ e, densA e zs = densA e (if c = true then xs else ys)) ∧ ∀ s, scs s zs
  | [], [], zs, h => by
    obtain rfl := Option.some.inj h
    exact ⟨fun e => by cases c <;> rfl, fun s x hx => by cases hx⟩
  | x :: xs, y :: ys, zs, h => by
    simp only [itesL] at h
    cases h1 : Cv.ite c x y with
    | none => rw [h1] at h; cases h
    | some z =>
      cases h2 : itesL c xs ys with
      | none => rw [h1, h2] at h; cases h
      | some zs' =>
        rw [h1, h2] at h
        obtain rfl := Option.some.inj h
        obtain ⟨d1, s1⟩ := Cv.ite_den h1
        obtain ⟨d2, s2⟩ := itesL_den h2
        refine ⟨fun e => ?_, fun s u hu => ?_⟩
        · have e1 := d1 e
          have e2 := d2 e
          cases c <;> simp only [Bool.false_eq_true, if_false, if_true, densA, List.map_cons] at e1 e2 ⊢ <;> (rw [e1]; have := congrArg Array.toList e2; simp only at this; rw [this])
        · cases hu with
          | head => exact s1 s
          | tail _ hu => exact s2 s u hu
  | [], _ :: _, _, h => by cases h
  | _ :: _, [], _, h => by cases h
theorem itesT_den {c : Bool} : ∀ {xs ys zs : List (Bool × List Cv)}, itesT c xs ys = some zs → (∀ e, zs.map (compDen e) = (if c = true then xs else ys).map (compDen e)) ∧ ∀ s, ∀ p ∈ zs, scs s p.2
  | [], [], zs, h => by
    obtain rfl := Option.some.inj h
    exact ⟨fun e => by cases c <;> rfl, fun s x hx => by cases hx⟩
  | (a, x) :: xs, (b, y) :: ys, zs, h => by
    simp only [itesT] at h
    split at h
    · rename_i z zs' hab hz hzs
      obtain rfl := Option.some.inj h
      obtain rfl : a = b := by simpa using hab
      obtain ⟨d1, s1⟩ := itesL_den hz
      obtain ⟨d2, s2⟩ := itesT_den hzs
      refine ⟨fun e => ?_, fun s p hp => ?_⟩
      · have e1 := d1 e
        have e2 : z.map (·.den e) = (if c = true then x else y).map (·.den e) := by
          unfold densA at e1
          exact List.toArray_inj e1
        have e3 := d2 e
        cases c with
        | true => simp only [if_true, List.map_cons] at e1 e2 e3 ⊢; rw [e3]; congr 1; unfold compDen; rw [e1, e2]
        | false => simp only [Bool.false_eq_true, if_false, List.map_cons] at e1 e2 e3 ⊢; rw [e3]; congr 1; unfold compDen; rw [e1, e2]
      · cases hp with
        | head => exact s1 s
        | tail _ hp => exact s2 s p hp
    · cases h
  | [], _ :: _, _, h => by cases h
  | _ :: _, [], _, h => by cases h
theorem Sv.ite_den {c : Bool} {x y z : Sv} (h : Sv.ite c x y = some z) : (∀ e, z.den e = (if c = true then x else y).den e) ∧ ∀ s, z.sc s := by
  cases x <;> cases y <;> simp only [Sv.ite] at h <;> try (cases h; done)
  · obtain ⟨u, hu, rfl⟩ := Option.map_eq_some_iff.1 h
    obtain ⟨d, s⟩ := Cv.ite_den hu
    exact ⟨fun e => (by have := d e; cases c <;> exact this), s⟩
  · obtain ⟨u, hu, rfl⟩ := Option.map_eq_some_iff.1 h
    obtain ⟨d, s⟩ := itesL_den hu
    exact ⟨fun e => (by have := d e; cases c <;> exact congrArg Value.agg this), s⟩
  · obtain ⟨u, hu, rfl⟩ := Option.map_eq_some_iff.1 h
    obtain ⟨d, s⟩ := itesT_den hu
    exact ⟨fun e => (by have := d e; cases c <;> exact congrArg (fun l => Value.tuple l.toArray) this), s⟩

/-- The tests of this region that have been decided: slot, and how. -/
abbrev Kn := List (Nat × Bool)
def KnOk (σ : St) (kn : Kn) : Prop := ∀ t d, alook kn t = some d → ∃ v l, alook σ.tm t = some (.one (.b v l)) ∧ v = d
def knO (kn : Kn) : Operand → Option Bool
  | .tmp t => alook kn t
  | _ => none
def pickS (σ : St) (kn : Kn) (c x y : Operand) : Tree OpE :=
  match knO kn c with
  | some true => optT ((evO σ x).map valT)
  | some false => optT ((evO σ y).map valT)
  | none => match evO σ c with
    | some (.one (.b v true)) => match v with
      | true => optT ((evO σ x).map valT)
      | false => optT ((evO σ y).map valT)
    | some (.one (.b v false)) => match evO σ x, evO σ y with
      | some vx, some vy => match Sv.ite v vx vy with
        | some z => valT z
        | none => .br v (valT vx) (valT vy)
      | _, _ => .fail
    | _ => .fail
theorem pickS_ok {kn : Kn} (hk : KnOk σ kn) {c x y : Operand} (ho : o.op = .pick c x y) : TreeOk P σ o (pickS σ kn c x y) := by
  have key : ∀ {v : Bool} {l : Bool}, evO σ c = some (.one (.b v l)) → ∀ {z : Operand}, z = (if v = true then x else y) → TreeOk P σ o (optT ((evO σ z).map valT)) := by
    intro v l hc z hz
    refine TreeOk.opt fun t ht => ?_
    obtain ⟨u, hu, rfl⟩ := Option.map_eq_some_iff.1 ht
    refine TreeOk.val fun s e a w hx => ?_
    obtain ⟨c1, c2⟩ := hx c (by rw [ho]; simp [Op.operands]) _ hc
    obtain ⟨h1, h2⟩ := hx z (by rw [ho, hz]; cases v <;> simp [Op.operands]) u hu
    refine ⟨?_, h2⟩
    have c1' : a.eval c = .bool v := c1
    unfold execOp
    simp only [ho, c1']
    rw [← h1, hz]
    cases v <;> rfl
  unfold pickS
  cases hkc : knO kn c with
  | some d =>
    obtain ⟨t, rfl⟩ : ∃ t, c = .tmp t := by cases c <;> first | exact ⟨_, rfl⟩ | cases hkc
    obtain ⟨v, l, h1, rfl⟩ := hk t d hkc
    cases v with
    | true => exact key h1 rfl
    | false => exact key h1 rfl
  | none =>
    simp only []
    split
    · rename_i v hc
      cases v with
      | true => exact key hc rfl
      | false => exact key hc rfl
    · rename_i v hc
      split
      · rename_i vx vy hvx hvy
        split
        · rename_i z hz
          obtain ⟨d, sc⟩ := Sv.ite_den hz
          refine TreeOk.val fun s e a w hx => ⟨?_, sc s⟩
          obtain ⟨c1, c2⟩ := hx c (by rw [ho]; simp [Op.operands]) _ hc
          obtain ⟨x1, _⟩ := hx x (by rw [ho]; simp [Op.operands]) _ hvx
          obtain ⟨y1, _⟩ := hx y (by rw [ho]; simp [Op.operands]) _ hvy
          have c1' : a.eval c = .bool v := c1
          unfold execOp
          simp only [ho, c1']
          rw [x1, y1, d e]
          cases v <;> rfl
        · refine TreeOk.br (fun hb => ?_) (fun hb => ?_)
          · have := key (z := x) hc (by rw [hb]; rfl)
            rw [hvx] at this; exact this
          · have := key (z := y) hc (by rw [hb]; rfl)
            rw [hvy] at this; exact this
      · exact TreeOk.fail
    · exact TreeOk.fail

/-! numbers, truth values, strings -/
def isDiv : BinOp → Bool
  | .quo => true
  | .rem => true
  | _ => false
def isShift : BinOp → Bool
  | .shl => true
  | .shr => true
  | _ => false
def Sv.isNil : Sv → Bool
  | .one (.val (.pointer none)) => true
  | .one (.val (.slice none _ _)) => true
  | .one (.val .nilFunc) => true
  | _ => false
/-- A pointer, a slice, a function that is not nil. -/
def Sv.isPtr : Sv → Bool
  | .one (.ptr _ _) => true
  | _ => false
def eqlB : BinOp → Option Bool
  | .eql => some true
  | .neq => some false
  | _ => none
def plainBin (op : BinOp) (t : TypeId) (x y : Operand) (a b : Value) : Option Value := prS (do eqGuard op t x y a b; binOp op t a b)
def binS (tb : Tb) (op : BinOp) (t : TypeId) (x y : Operand) (vx vy : Sv) : Tree OpE :=
  match vx, vy with
  | .one (.b p lp), .one (.b q lq) => match tb.und t, eqlB op with
    | some .bool, some true => valT (.one (.b (p == q) (lp && lq)))
    | some .bool, some false => valT (.one (.b (!(p == q)) (lp && lq)))
    | _, _ => .fail
  | .one (.i k n ln), .one (.i k' m lm) =>
    match isDiv op, lm with
    | true, false => match op with
      | .quo => if k = k' then .must (m != 0) (valT (.one (.i k (k.wrap (n.tdiv m)) false))) else .fail
      | .rem => if k = k' then .must (m != 0) (valT (.one (.i k (n.tmod m) false))) else .fail
      | _ => .fail
    | _, _ => match isShift op, lm with
      | true, false => .fail
      | _, _ => match plainBin op t x y (.int k n) (.int k' m) with
        | some v => valT (.one (Cv.ofL (ln && lm) v))
        | none => .fail
  | .one (.s n ln), .one (.s m lm) => match op with
    | .add => mustL (ln && lm) (decide (n.size + m.size ≤ 9223372036854775807)) (valT (.one (.s (n ++ m) (ln && lm))))
    | _ => match plainBin op t x y (.string n) (.string m) with
      | some v => valT (.one (Cv.ofL (ln && lm) v))
      | none => .fail
  | .one (.ptr _ _), .one (.val (.pointer none)) => match tb.und t, eqlB op with
    | some (.pointer _), some r => valT (.one (.b (!r) true))
    | _, _ => .fail
  | .one (.val (.pointer q)), .one (.val (.pointer none)) => match tb.und t, eqlB op with
    | some (.pointer _), some true => valT (.one (.b q.isNone true))
    | some (.pointer _), some false => valT (.one (.b (!q.isNone) true))
    | _, _ => .fail
  | .one (.slc _ _ _ _), .one (.val (.slice none _ _)) => match tb.und t, eqlB op with
    | some (.slice _), some r => valT (.one (.b (!r) true))
    | _, _ => .fail
  | _, _ => .fail
theorem plain_run {op : BinOp} {t : TypeId} {x y : Operand} {a b v : Value} (h : plainBin op t x y a b = some v) (w : World) : (do eqGuard op t x y a b; binOp op t a b : Sem Value).run P w = .ok v w := prS_run h P w
theorem equal_run {t : TypeId} {a b : Value} {d : TypeDesc} (_hd : P.underlying t = some d) {r : Bool} {w : World} (h : ∀ n, (Op.equalIn (n + 1) t a b).run P w = .ok r w) : (Op.equal t a b).run P w = .ok r w := h 9999
theorem binS_ok (hT : TbOk P tb) {op : BinOp} {t yt : TypeId} {x y : Operand} {vx vy : Sv} (ho : o.op = .binOp op t x y yt) (hx : evO σ x = some vx) (hy : evO σ y = some vy) : TreeOk P σ o (binS tb op t x y vx vy) := by
  have go : ∀ {v : Sv}, (∀ (e : Env) (w : World), (do eqGuard op t x y (vx.den e) (vy.den e); binOp op t (vx.den e) (vy.den e) : Sem Value).run P w = .ok (v.den e) w) → (∀ s, v.sc s) → TreeOk P σ o (valT v) := by
    intro v h hs
    refine TreeOk.val fun s e a w hh => ⟨?_, hs s⟩
    obtain ⟨x1, _⟩ := hh x (by rw [ho]; simp [Op.operands]) _ hx
    obtain ⟨y1, _⟩ := hh y (by rw [ho]; simp [Op.operands]) _ hy
    unfold execOp
    simp only [ho]
    rw [x1, y1]
    exact runV (h e w)
  unfold binS
  split
  · -- truth values
    split
    · rename_i p lp q lq _ _ hu hop
      obtain rfl : op = .eql := by cases op <;> first | rfl | cases hop
      refine go (fun e w => ?_) (fun _ => trivial)
      show ((do eqGuard .eql t x y (.bool p) (.bool q); binOp .eql t (.bool p) (.bool q) : Sem Value)).run P w = .ok (.bool (p == q)) w
      rw [Sem.run_bind, eqGuard_at_bool]
      show (do pure (Value.bool (← Op.equal t (.bool p) (.bool q))) : Sem Value).run P w = _
      rw [Sem.run_bind, equal_run (hT.und hu) fun n => run_equalIn_bool' w n t p q (hT.und hu)]
      rfl
    · rename_i p lp q lq _ _ hu hop
      obtain rfl : op = .neq := by cases op <;> first | rfl | cases hop
      refine go (fun e w => ?_) (fun _ => trivial)
      show ((do eqGuard .neq t x y (.bool p) (.bool q); binOp .neq t (.bool p) (.bool q) : Sem Value)).run P w = .ok (.bool !(p == q)) w
      rw [Sem.run_bind, eqGuard_at_bool]
      show (do pure (Value.bool (!(← Op.equal t (.bool p) (.bool q)))) : Sem Value).run P w = _
      rw [Sem.run_bind, equal_run (hT.und hu) fun n => run_equalIn_bool' w n t p q (hT.und hu)]
      rfl
    · exact TreeOk.fail
  · -- numbers
    rename_i k n ln k' m lm
    split
    · split
      · split
        · rename_i hk; subst hk
          refine TreeOk.must fun hm => go (fun e w => ?_) (fun _ => trivial)
          have hm' : m ≠ 0 := by simpa using hm
          show ((do eqGuard .quo t x y (.int k n) (.int k m); binOp .quo t (.int k n) (.int k m) : Sem Value)).run P w = _
          rw [Sem.run_bind, eqGuard_quo, binOp_quo]
          simp only [Sem.run_pure, Result.andThen_ok, Op.intDiv, if_neg hm']
          rfl
        · exact TreeOk.fail
      · split
        · rename_i hk; subst hk
          refine TreeOk.must fun hm => go (fun e w => ?_) (fun _ => trivial)
          have hm' : m ≠ 0 := by simpa using hm
          show ((do eqGuard .rem t x y (.int k n) (.int k m); binOp .rem t (.int k n) (.int k m) : Sem Value)).run P w = _
          rw [Sem.run_bind, eqGuard_rem, binOp_rem]
          simp only [Sem.run_pure, Result.andThen_ok, Op.intDiv, if_neg hm']
          rfl
        · exact TreeOk.fail
      · exact TreeOk.fail
    · split
      · exact TreeOk.fail
      · split
        · rename_i v hv
          exact go (fun e w => (plain_run hv w).trans (congrArg (fun z => Result.ok z w) (Cv.ofL_den _ v e).symm)) (fun s => Cv.ofL_sc _ v s)
        · exact TreeOk.fail
  · -- strings
    rename_i n ln m lm
    split
    · refine TreeOk.mustL fun hm => go (fun e w => ?_) (fun _ => trivial)
      have hm' : n.size + m.size ≤ 9223372036854775807 := by simpa using hm
      show ((do eqGuard .add t x y (.string n) (.string m); binOp .add t (.string n) (.string m) : Sem Value)).run P w = _
      rw [Sem.run_bind, eqGuard_add]
      simp only [Sem.run_pure, Result.andThen_ok, binOp, Op.stringOp, IntKind.max_i64]
      rw [if_neg (by omega)]
      rfl
    · split
      · rename_i v hv
        exact go (fun e w => (plain_run hv w).trans (congrArg (fun z => Result.ok z w) (Cv.ofL_den _ v e).symm)) (fun s => Cv.ofL_sc _ v s)
      · exact TreeOk.fail
  · -- a pointer and nil
    rename_i id off
    split
    · rename_i r el _ hu hop
      refine go (fun e w => ?_) (fun _ => trivial)
      have h1 : ∀ k, (Op.equalIn (k + 1) t (.pointer (some (e.ad id (off.den e)))) (.pointer none)).run P w = .ok false w := fun k => by
        simp [Op.equalIn, run_underlying (hT.und hu)]
      cases op <;> simp only [eqlB] at hop <;> first | cases hop; done | skip
      all_goals
        obtain rfl := Option.some.inj hop
        rw [Sem.run_bind]
        simp only [Sv.den, Cv.den, eqGuard_at_pointer, Sem.run_pure, Result.andThen_ok, binOp]
        rw [Sem.run_bind, equal_run (hT.und hu) h1]
        rfl
    · exact TreeOk.fail
  · -- a known pointer and nil
    rename_i q
    split
    · rename_i el _ hu hop
      obtain rfl : op = .eql := by cases op <;> first | rfl | cases hop
      refine go (fun e w => ?_) (fun _ => trivial)
      have h1 : ∀ k, (Op.equalIn (k + 1) t (.pointer q) (.pointer none)).run P w = .ok q.isNone w := fun k => by
        cases q <;> simp [Op.equalIn, run_underlying (hT.und hu)]
      rw [Sem.run_bind]
      simp only [Sv.den, Cv.den, eqGuard_at_pointer, Sem.run_pure, Result.andThen_ok, binOp]
      rw [Sem.run_bind, equal_run (hT.und hu) h1]
      rfl
    · rename_i el _ hu hop
      obtain rfl : op = .neq := by cases op <;> first | rfl | cases hop
      refine go (fun e w => ?_) (fun _ => trivial)
      have h1 : ∀ k, (Op.equalIn (k + 1) t (.pointer q) (.pointer none)).run P w = .ok q.isNone w := fun k => by
        cases q <;> simp [Op.equalIn, run_underlying (hT.und hu)]
      rw [Sem.run_bind]
      simp only [Sv.den, Cv.den, eqGuard_at_pointer, Sem.run_pure, Result.andThen_ok, binOp]
      rw [Sem.run_bind, equal_run (hT.und hu) h1]
      rfl
    · exact TreeOk.fail
  · -- a slice and nil
    rename_i id off len cap n c
    split
    · rename_i r el _ hu hop
      refine go (fun e w => ?_) (fun _ => trivial)
      have h1 : ∀ k, (Op.equalIn (k + 1) t (.slice (some (e.ad id (off.den e))) (len.den e) (cap.den e)) (.slice none n c)).run P w = .ok false w := fun k => by
        simp [Op.equalIn, run_underlying (hT.und hu)]
      cases op <;> simp only [eqlB] at hop <;> first | cases hop; done | skip
      all_goals
        obtain rfl := Option.some.inj hop
        rw [Sem.run_bind]
        simp only [Sv.den, Cv.den, eqGuard_at_slice, Sem.run_pure, Result.andThen_ok, binOp]
        rw [Sem.run_bind, equal_run (hT.und hu) h1]
        rfl
    · exact TreeOk.fail
  · exact TreeOk.fail

def unS (op : UnOp) (v : Sv) : Tree OpE := match v.pv with
  | some (x, l) => match prS (Op.unary op x) with
    | some y => valT (.one (Cv.ofL l y))
    | none => .fail
  | none => .fail
theorem unS_ok {op : UnOp} {t : TypeId} {x : Operand} {v : Sv} (ho : o.op = .unOp op t x) (hx : evO σ x = some v) : TreeOk P σ o (unS op v) := by
  unfold unS
  split
  · rename_i u l hp
    split
    · rename_i y hy
      refine TreeOk.val fun s e a w hh => ⟨?_, Cv.ofL_sc _ y s⟩
      obtain ⟨x1, _⟩ := hh x (by rw [ho]; simp [Op.operands]) _ hx
      unfold execOp
      simp only [ho]
      rw [x1, Sv.pv_den hp, show Sv.den e (.one (Cv.ofL l y)) = y from Cv.ofL_den _ y e]
      exact runV (prS_run hy P w)
    · exact TreeOk.fail
  · exact TreeOk.fail
def convS (tb : Tb) (src dst : TypeId) (v : Sv) : Tree OpE := match v, tb.und src, tb.und dst with
  | .one (.i _ n l), some _, some (.int k) => valT (.one (.i k (k.wrap n) l))
  | .one (.s x l), some .string, some .string => valT (.one (.s x l))
  | _, _, _ => .fail
theorem convS_ok (hT : TbOk P tb) {src dst : TypeId} {x : Operand} {v : Sv} (ho : o.op = .convert src dst x) (hx : evO σ x = some v) : TreeOk P σ o (convS tb src dst v) := by
  unfold convS
  split
  · rename_i k0 n l d k hs hd
    refine TreeOk.val fun s e a w hh => ⟨?_, trivial⟩
    obtain ⟨x1, _⟩ := hh x (by rw [ho]; simp [Op.operands]) _ hx
    unfold execOp
    simp only [ho]
    rw [x1]
    refine runV ?_
    simp only [convert, Sem.run_bind, run_und hT hs, run_und hT hd, Result.andThen_ok, Sv.den, Cv.den]
    rfl
  · rename_i u l hs hd
    refine TreeOk.val fun s e a w hh => ⟨?_, trivial⟩
    obtain ⟨x1, _⟩ := hh x (by rw [ho]; simp [Op.operands]) _ hx
    unfold execOp
    simp only [ho]
    rw [x1]
    refine runV ?_
    simp only [convert, Sem.run_bind, run_und hT hs, run_und hT hd, Result.andThen_ok, Sv.den, Cv.den]
    rfl
  · exact TreeOk.fail

/-! a closure -/
def pvOf : Sv → Option Pv
  | .one (.ptr id (.lit off)) => some (.ptr id off)
  | .one (.val v) => some (.val v true)
  | .one (.b v l) => some (.val (.bool v) l)
  | .one (.i k n l) => some (.val (.int k n) l)
  | .one (.s v l) => some (.val (.string v) l)
  | _ => none
theorem pvOf_den {v : Sv} {p : Pv} (h : pvOf v = some p) : (∀ e, p.den e = v.den e) ∧ ∀ s, v.sc s → p.sc s := by
  cases v with
  | one c =>
    cases c with
    | ptr id off =>
      cases off with
      | lit n => obtain rfl := Option.some.inj h; exact ⟨fun _ => rfl, fun _ hs => hs.1⟩
      | _ => cases h
    | _ => first | cases h; done | (obtain rfl := Option.some.inj h; exact ⟨fun _ => rfl, fun _ _ => trivial⟩)
  | _ => cases h
def pvsOf (σ : St) : List Operand → Option (List Pv)
  | [] => some []
  | x :: xs => match (evO σ x).bind pvOf, pvsOf σ xs with
    | some p, some ps => some (p :: ps)
    | _, _ => none
def funcS (σ : St) (f : Fn) (first caps : Array Operand) : Tree OpE := match first.toList, pvsOf σ caps.toList with
  | [], some ps => valT (.one (.fn f ps))
  | _, _ => .fail
theorem pvsOf_den {s : Sto} {e : Env} {a : Act} : ∀ {xs : List Operand} {ps : List Pv}, pvsOf σ xs = some ps → (∀ x ∈ xs, Sees σ s e a x) → ps.map (·.den e) = xs.map a.eval ∧ ∀ p ∈ ps, p.sc s
  | [], ps, h, _ => by obtain rfl := Option.some.inj h; exact ⟨rfl, fun p hp => by cases hp⟩
  | x :: xs, ps, h, hh => by
    simp only [pvsOf] at h
    cases h1 : (evO σ x).bind pvOf with
    | none => rw [h1] at h; cases h
    | some p =>
      cases h2 : pvsOf σ xs with
      | none => rw [h1, h2] at h; cases h
      | some ps' =>
        rw [h1, h2] at h
        obtain rfl := Option.some.inj h
        obtain ⟨v, hv, hp⟩ := Option.bind_eq_some_iff.1 h1
        obtain ⟨v1, v2⟩ := hh x List.mem_cons_self v hv
        obtain ⟨d, sc⟩ := pvOf_den hp
        obtain ⟨r1, r2⟩ := pvsOf_den h2 fun y hy => hh y (List.mem_cons_of_mem _ hy)
        refine ⟨by simp only [List.map_cons]; rw [d e, v1, r1], fun q hq => ?_⟩
        cases hq with
        | head => exact sc s v2
        | tail _ hq => exact r2 q hq
theorem funcS_ok {f : Fn} {first caps : Array Operand} (ho : o.op = .makeFunc f first caps) : TreeOk P σ o (funcS σ f first caps) := by
  unfold funcS
  split
  · rename_i ps hf hps
    obtain rfl : first = #[] := by
      apply Array.ext'
      simpa using hf
    refine TreeOk.val fun s e a w hh => ?_
    obtain ⟨r1, r2⟩ := pvsOf_den hps fun x hx => hh x (by rw [ho]; simpa [Op.operands] using hx)
    refine ⟨?_, r2⟩
    unfold execOp
    simp only [ho]
    refine runV ?_
    simp only [Instr.makeFunc, Sv.den, Cv.den, Sem.run_pure]
    rw [r1]
    have hcs : caps.map a.eval = (caps.toList.map a.eval).toArray := by
      obtain ⟨l⟩ := caps
      simp
    rw [hcs, Array.map_empty]
  · exact TreeOk.fail

def extractS (v : Sv) (ix : Nat) : Tree OpE := match v with
  | .tup vs => match vs[ix]? with
    | some (true, cs) => valT (.agg cs)
    | some (false, [c]) => valT (.one c)
    | _ => .fail
  | _ => .fail
theorem extractS_ok {x : Operand} {ix : Nat} {v : Sv} (ho : o.op = .extract x ix) (hx : evO σ x = some v) : TreeOk P σ o (extractS v ix) := by
  unfold extractS
  split
  · rename_i vs
    have run : ∀ (e : Env) (a : Act) (w : World) (p : Bool × List Cv), vs[ix]? = some p → a.eval x = Sv.den e (.tup vs) → (execOp a.eval o).run P w = .ok (.value (compDen e p)) w := by
      intro e a w p hp hx1
      unfold execOp
      simp only [ho]
      rw [hx1]
      refine runV ?_
      simp only [Instr.extract, Sv.den]
      have : (vs.map (compDen e)).toArray[ix]? = some (compDen e p) := by simp [hp]
      rw [this]
      rfl
    split
    · rename_i cs hp
      refine TreeOk.val fun s e a w hh => ?_
      obtain ⟨x1, x2⟩ := hh x (by rw [ho]; simp [Op.operands]) _ hx
      exact ⟨run e a w _ hp x1, x2 _ (List.mem_of_getElem? hp)⟩
    · rename_i c hp
      refine TreeOk.val fun s e a w hh => ?_
      obtain ⟨x1, x2⟩ := hh x (by rw [ho]; simp [Op.operands]) _ hx
      exact ⟨run e a w _ hp x1, x2 _ (List.mem_of_getElem? hp) c (by simp)⟩
    · exact TreeOk.fail
  · exact TreeOk.fail
end
end Sx
end Go.Proofs.YtpdhkgfdmpofiaaGreatDoor
