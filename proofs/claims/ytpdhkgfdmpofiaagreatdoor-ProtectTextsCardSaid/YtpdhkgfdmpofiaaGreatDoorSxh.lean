/-
  All operations; a call of a function, by what is known of the function.
-/
import Derived.Test.YtpdhkgfdmpofiaaGreatDoorSyc
import Derived.Test.YtpdhkgfdmpofiaaGreatDoorSxp
set_option linter.unusedSimpArgs false
set_option linter.unusedVariables false
namespace Go.Proofs.YtpdhkgfdmpofiaaGreatDoor
namespace Sx
open Go.RowKit

section
variable {P : Program} {σ : St} {o : Oper} {tb : Tb}

def opt1 (σ : St) (x : Operand) (f : Sv → Tree OpE) : Tree OpE := match evO σ x with
  | some v => f v
  | none => .fail
def opt2 (σ : St) (x y : Operand) (f : Sv → Sv → Tree OpE) : Tree OpE := match evO σ x, evO σ y with
  | some v, some u => f v u
  | _, _ => .fail
theorem opt1_ok {x : Operand} {f : Sv → Tree OpE} (h : ∀ v, evO σ x = some v → TreeOk P σ o (f v)) : TreeOk P σ o (opt1 σ x f) := by
  unfold opt1
  split
  · rename_i v hv; exact h v hv
  · exact TreeOk.fail
theorem opt2_ok {x y : Operand} {f : Sv → Sv → Tree OpE} (h : ∀ v u, evO σ x = some v → evO σ y = some u → TreeOk P σ o (f v u)) : TreeOk P σ o (opt2 σ x y f) := by
  unfold opt2
  split
  · rename_i v u hv hu; exact h v u hv hu
  · exact TreeOk.fail
def builtinS (tb : Tb) (σ : St) (b : Builtin) (args : List Operand) (ts : List TypeId) : Tree OpE := match b, args, ts with
  | .len, [x], [t] => opt1 σ x (lenS tb t)
  | .max, [x, y], _ => opt2 σ x y (mmS true)
  | .min, [x, y], _ => opt2 σ x y (mmS false)
  | .append, [x, y], [t, t'] => opt2 σ x y (appendX tb σ t t')
  | .clear, [x], [t] => opt1 σ x (clearS tb σ t)
  | _, _, _ => .fail
def opS (tb : Tb) (σ : St) (kn : Kn) (o : Oper) : Tree OpE := match o.op with
  | .move x => optT ((evO σ x).map valT)
  | .assign x => optT ((evO σ x).map valT)
  | .pick c x y => pickS σ kn c x y
  | .alloc t => allocS tb σ t
  | .box t x => opt1 σ x (boxS σ t)
  | .build t ps => buildS tb σ t ps
  | .buildSlice t n ps => buildSliceE tb σ t n ps
  | .load t x => opt1 σ x (loadS tb σ t)
  | .store t x y => opt2 σ x y (storeS tb σ t)
  | .nilCheck x => opt1 σ x nilS
  | .binOp op t x y _ => opt2 σ x y (binA tb op t x y)
  | .unOp op _ x => opt1 σ x (unS op)
  | .convert s d x => opt1 σ x (convS tb s d)
  | .makeFunc f a b => funcS σ f a b
  | .slice t x l h m => opt1 σ x fun v => sliceX tb σ t v l h m
  | .fieldAddr t x f => opt1 σ x fun v => fieldAddrS tb t v f
  | .field t x f => opt1 σ x fun v => fieldS tb t v f
  | .indexAddr t x i => opt2 σ x i (indexAddrS tb σ t)
  | .index t x i => opt2 σ x i (indexS tb t)
  | .extract x i => opt1 σ x fun v => extractS v i
  | .call { callee := .builtin b, args := args, argTypes := ts } => builtinS tb σ b args.toList ts.toList
  | _ => .fail
theorem arr1 {α : Type} {a : Array α} {x : α} (h : a.toList = [x]) : a = #[x] := Array.ext' (by simpa using h)
theorem arr2 {α : Type} {a : Array α} {x y : α} (h : a.toList = [x, y]) : a = #[x, y] := Array.ext' (by simpa using h)
theorem builtinS_ok (hT : TbOk P tb) {b : Builtin} {args : Array Operand} {ts : Array TypeId} (ho : o.op = .call { callee := .builtin b, args := args, argTypes := ts }) : TreeOk P σ o (builtinS tb σ b args.toList ts.toList) := by
  unfold builtinS
  split
  · rename_i x t ha ht
    obtain rfl := arr1 ha
    obtain rfl := arr1 ht
    exact opt1_ok fun v hv => lenS_ok hT ho hv
  · rename_i x y _ ha
    obtain rfl := arr2 ha
    exact opt2_ok fun v u hv hu => mmS_ok (mx := true) ho hv hu
  · rename_i x y _ ha
    obtain rfl := arr2 ha
    exact opt2_ok fun v u hv hu => mmS_ok (mx := false) ho hv hu
  · rename_i x y t t' ha ht
    obtain rfl := arr2 ha
    obtain rfl := arr2 ht
    exact opt2_ok fun v u hv hu => appendX_ok hT ho hv hu
  · rename_i x t ha ht
    obtain rfl := arr1 ha
    obtain rfl := arr1 ht
    exact opt1_ok fun v hv => clearS_ok hT ho hv
  · exact TreeOk.fail
theorem opS_ok (hT : TbOk P tb) {kn : Kn} (hk : KnOk σ kn) : TreeOk P σ o (opS tb σ kn o) := by
  unfold opS
  split
  · rename_i x ho; exact movS_ok (Or.inl ho)
  · rename_i x ho; exact movS_ok (Or.inr ho)
  · rename_i c x y ho; exact pickS_ok hk ho
  · rename_i t ho; exact allocS_ok hT ho
  · rename_i t x ho; exact opt1_ok fun v hv => boxS_ok ho hv
  · rename_i t ps ho; exact buildS_ok hT ho
  · rename_i t n ps ho; exact buildSliceE_ok hT ho
  · rename_i t x ho; exact opt1_ok fun v hv => loadS_ok hT ho hv
  · rename_i t x y ho; exact opt2_ok fun v u hv hu => storeS_ok hT ho hv hu
  · rename_i x ho; exact opt1_ok fun v hv => nilS_ok ho hv
  · rename_i op t x y yt ho; exact opt2_ok fun v u hv hu => binA_ok hT ho hv hu
  · rename_i op t x ho; exact opt1_ok fun v hv => unS_ok ho hv
  · rename_i s d x ho; exact opt1_ok fun v hv => convS_ok hT ho hv
  · rename_i f a b ho; exact funcS_ok ho
  · rename_i t x l h m ho; exact opt1_ok fun v hv => sliceX_ok hT ho hv
  · rename_i t x f ho; exact opt1_ok fun v hv => fieldAddrS_ok hT ho hv
  · rename_i t x f ho; exact opt1_ok fun v hv => fieldS_ok hT ho hv
  · rename_i t x i ho; exact opt2_ok fun v u hv hu => indexAddrS_ok hT ho hv hu
  · rename_i t x i ho; exact opt2_ok fun v u hv hu => indexS_ok hT ho hv hu
  · rename_i x i ho; exact opt1_ok fun v hv => extractS_ok ho hv
  · rename_i b args ts ho; exact builtinS_ok hT ho
  · exact TreeOk.fail

/-- The same, for what runs other code. -/
def OpOkW (P : Program) (σ : St) (o : Oper) (E : OpE) : Prop :=
  ∀ (C : Ctx) (e : Env) (s : Sto) (a : Act) (w : World) (next : Act → World → Prop) (Q : Exit → Act → World → Prop), Hp C e s w → (∀ x ∈ o.op.operands, Sees σ s e a x) → (∀ l ∈ E.rl, s l = look σ l) →
    (∀ e' w' x, Agree s e e' → Hp C e' (upds s E.ws) w' → (∀ v, E.val = some v → x = v.den e' ∧ v.sc (upds s E.ws)) → (E.val = none → x = undef) → next (a.put o.dst x) w') → o.wp P a w next Q
theorem OpOk.toW {E : OpE} (h : OpOk P σ o E) : OpOkW P σ o E := by
  intro C e s a w next Q hp hx hl hn
  obtain ⟨nx, e', w', h1, h2, h3, h4⟩ := h C e s a w hp hx hl
  unfold Oper.wp
  rw [h1]
  cases hv : E.val with
  | none =>
    rw [hv] at h4
    obtain rfl : nx = .skip := h4
    exact hn e' w' undef h2 h3 (fun v hv' => by rw [hv] at hv'; cases hv') (fun _ => rfl)
  | some v =>
    rw [hv] at h4
    obtain ⟨rfl, hsc⟩ := h4
    exact hn e' w' _ h2 h3 (fun v' hv' => by rw [hv] at hv'; obtain rfl := Option.some.inj hv'; exact ⟨rfl, hsc⟩) (fun hv' => by rw [hv] at hv'; cases hv')
def TreeOkW (P : Program) (σ : St) (o : Oper) (t : Tree OpE) : Prop := ∀ Φ : OpE → Prop, t.All Φ → ∃ E, Φ E ∧ OpOkW P σ o E
theorem TreeOk.toW {t : Tree OpE} (h : TreeOk P σ o t) : TreeOkW P σ o t := fun Φ hΦ => let ⟨E, h1, h2⟩ := h Φ hΦ; ⟨E, h1, h2.toW⟩

/-! names that occur -/
def Pv.inB (K : List Nat) : Pv → Bool
  | .ptr id _ => memb K id
  | .val _ _ => true
def Sn.inB (N : List Nat) : Sn → Bool
  | .nam c => memb N c
  | _ => true
def Cv.inB (K N : List Nat) : Cv → Bool
  | .ptr id off => memb K id && off.inB N
  | .slc id off len cap => memb K id && off.inB N && len.inB N && cap.inB N
  | .fn _ caps => caps.all (Pv.inB K)
  | _ => true
def Sv.inB (K N : List Nat) : Sv → Bool
  | .one c => c.inB K N
  | .agg cs => cs.all (Cv.inB K N)
  | .tup vs => vs.all fun p => p.2.all (Cv.inB K N)
def cpIn (N : List Nat) : Option (Nat × Nat) → Bool
  | some (c, _) => memb N c
  | none => true
def Blk.inB (K N : List Nat) : Blk → Bool
  | .ar _ _ cs cp => cs.all (Cv.inB K N) && cpIn N cp
  | .oq _ _ _ _ cp => cpIn N cp
  | .gone => true
def stoOf (K N : List Nat) : Sto
  | .k id => if memb K id = true then some (.bk .gone) else none
  | .n c => if memb N c = true then some .nm else none
  | _ => none
theorem kn_stoOf {K N : List Nat} {id : Nat} (h : memb K id = true) : kn (stoOf K N) id := by unfold kn; simp [stoOf, h]
theorem knn_stoOf {K N : List Nat} {c : Nat} (h : memb N c = true) : knn (stoOf K N) c := by unfold knn; simp [stoOf, h]
theorem Sn.inB_sc {K N : List Nat} {x : Sn} (h : x.inB N = true) : x.sc (stoOf K N) := by
  cases x with
  | nam c => exact knn_stoOf h
  | _ => trivial
theorem Cv.inB_sc {K N : List Nat} {c : Cv} (h : c.inB K N = true) : c.sc (stoOf K N) := by
  cases c with
  | ptr id off =>
    simp only [Cv.inB, Bool.and_eq_true] at h
    exact ⟨kn_stoOf h.1, Sn.inB_sc h.2⟩
  | slc id off len cap =>
    simp only [Cv.inB, Bool.and_eq_true] at h
    exact ⟨kn_stoOf h.1.1.1, Sn.inB_sc h.1.1.2, Sn.inB_sc h.1.2, Sn.inB_sc h.2⟩
  | fn f caps =>
    intro p hp
    have := List.all_eq_true.1 h p hp
    cases p with
    | ptr id off => exact kn_stoOf this
    | val v l => trivial
  | _ => trivial
theorem allIn_sc {K N : List Nat} {cs : List Cv} (h : cs.all (Cv.inB K N) = true) : scs (stoOf K N) cs := fun c hc => Cv.inB_sc (List.all_eq_true.1 h c hc)
theorem Sv.inB_sc {K N : List Nat} {v : Sv} (h : v.inB K N = true) : v.sc (stoOf K N) := by
  cases v with
  | one c => exact Cv.inB_sc h
  | agg cs => exact allIn_sc h
  | tup vs => exact fun p hp => allIn_sc (List.all_eq_true.1 h p hp)

def Pv.ids : Pv → List Nat
  | .ptr id _ => [id]
  | .val _ _ => []
def Cv.ids : Cv → List Nat
  | .ptr id _ => [id]
  | .slc id _ _ _ => [id]
  | .fn _ caps => caps.flatMap Pv.ids
  | _ => []
def Sv.ids : Sv → List Nat
  | .one c => c.ids
  | .agg cs => cs.flatMap Cv.ids
  | .tup vs => vs.flatMap fun p => p.2.flatMap Cv.ids
def Blk.ids : Blk → List Nat
  | .ar _ _ cs _ => cs.flatMap Cv.ids
  | _ => []
/-- The blocks that are reached from some. -/
def reach (bk : List (Nat × Blk)) : Nat → List Nat → List Nat → List Nat
  | 0, _, acc => acc
  | _ + 1, [], acc => acc
  | n + 1, id :: l, acc => match memb acc id with
    | true => reach bk n l acc
    | false => match alook bk id with
      | some b => reach bk n (b.ids ++ l) (id :: acc)
      | none => reach bk n l acc
/-- A state cut down to some blocks. -/
def Blk.setRo (ro : Bool) : Blk → Blk
  | .ar t r cs cp => .ar t (ro || r) cs cp
  | .oq t r n f cp => .oq t (ro || r) n f cp
  | .gone => .gone
def restr (ids : List Nat) (ro : Bool) : List (Nat × Blk) → List (Nat × Blk)
  | [] => []
  | (k, b) :: l => match memb ids k with
    | true => (k, b.setRo ro) :: restr ids ro l
    | false => restr ids ro l
theorem alook_restr (ids : List Nat) (ro : Bool) (l : List (Nat × Blk)) (id : Nat) : alook (restr ids ro l) id = if memb ids id = true then (alook l id).map (Blk.setRo ro) else none := by
  induction l with
  | nil => simp [restr, alook]
  | cons x l ih =>
    obtain ⟨k, b⟩ := x
    simp only [restr]
    cases hm : memb ids k with
    | true =>
      simp only [alook]
      cases hb : Nat.beq k id with
      | true => obtain rfl := beq_iff'.1 hb; simp [hm]
      | false => exact ih
    | false =>
      simp only [alook]
      cases hb : Nat.beq k id with
      | true => obtain rfl := beq_iff'.1 hb; rw [ih]; simp [hm]
      | false => exact ih
def Blk.rwB : Blk → Bool
  | .ar _ ro _ _ => !ro
  | .oq _ ro _ _ _ => !ro
  | .gone => true

/-- A log names no write at a cell. -/
def unW (lg : List Wr) (id off : Nat) : Bool := lg.all fun x => match x with
  | .cell i o _ => !(Nat.beq i id && Nat.beq o off)
  | .new i _ => !Nat.beq i id
  | _ => true
/-- What the log does not name is as it was. -/
def KeepL (σ σ' : St) : Prop := ∀ id off, kn (look σ) id → unW σ'.lg id off = true → look σ' (.c id off) = look σ (.c id off)
theorem KeepL.refl (σ : St) : KeepL σ σ := fun _ _ _ _ => rfl
/-- What is known of a function at some arguments. -/
structure FunOk (P : Program) (f : FuncId) (args : List Sv) (σ : St) (v : Sv) (σ' : St) : Prop where
  run : ∀ (C : Ctx) (e : Env) (w : World), Hp C e (look σ) w → (∀ x ∈ args, x.sc (look σ)) →
    Calls P f (args.map (·.den e)).toArray w fun en w' => ∃ e', Agree (look σ) e e' ∧ Hp C e' (look σ') w' ∧ en = .returned (v.den e') ∧ v.sc (look σ')
  keep : KeepL σ σ'
abbrev CallF := FuncId → List Sv → St → Tree (Sv × St)
def CallFOk (P : Program) (call : CallF) : Prop := ∀ f args σ (Φ : Sv × St → Prop), (call f args σ).All Φ → ∃ v σ', Φ (v, σ') ∧ FunOk P f args σ v σ'

def pvSv : Pv → Sv
  | .ptr id off => .one (.ptr id (.lit off))
  | .val v l => .one (Cv.ofL l v)
theorem pvSv_den (p : Pv) (e : Env) : (pvSv p).den e = p.den e := by
  cases p with
  | ptr id off => rfl
  | val v l => exact Cv.ofL_den l v e
def evs (σ : St) : List Operand → Option (List Sv)
  | [] => some []
  | x :: xs => match evO σ x, evs σ xs with
    | some v, some vs => some (v :: vs)
    | _, _ => none
theorem evs_ok {s : Sto} {e : Env} {a : Act} : ∀ {xs : List Operand} {vs : List Sv}, evs σ xs = some vs → (∀ x ∈ xs, Sees σ s e a x) → xs.map a.eval = vs.map (·.den e)
  | [], vs, h, _ => by obtain rfl := Option.some.inj h; rfl
  | x :: xs, vs, h, hh => by
    simp only [evs] at h
    split at h
    · rename_i v vs' hv hvs
      obtain rfl := Option.some.inj h
      rw [List.map_cons, List.map_cons, (hh x List.mem_cons_self v hv).1, evs_ok hvs fun y hy => hh y (List.mem_cons_of_mem _ hy)]
    · cases h
def gOf (σ' : St) (id : Nat) : Blk := match alook σ'.bk id with
  | some b => b
  | none => .gone
def fresh : List Nat → List Nat → List Nat
  | _, [] => []
  | old, c :: l => match memb old c with
    | true => fresh old l
    | false => c :: fresh old l
theorem mem_fresh {old : List Nat} : ∀ {l : List Nat} {c : Nat}, c ∈ fresh old l ↔ c ∈ l ∧ memb old c = false
  | [], c => by simp [fresh]
  | x :: l, c => by
    simp only [fresh]
    cases h : memb old x with
    | true =>
      rw [mem_fresh (l := l)]
      constructor
      · rintro ⟨h1, h2⟩; exact ⟨List.mem_cons_of_mem _ h1, h2⟩
      · rintro ⟨h1, h2⟩
        cases h1 with
        | head => rw [h] at h2; cases h2
        | tail _ h1 => exact ⟨h1, h2⟩
    | false =>
      rw [List.mem_cons, mem_fresh (l := l)]
      constructor
      · rintro (rfl | ⟨h1, h2⟩)
        · exact ⟨List.mem_cons_self, h⟩
        · exact ⟨List.mem_cons_of_mem _ h1, h2⟩
      · rintro ⟨h1, h2⟩
        cases h1 with
        | head => exact Or.inl rfl
        | tail _ h1 => exact Or.inr ⟨h1, h2⟩
/-- Those of some blocks that may be written. -/
def rws (bk : List (Nat × Blk)) : List Nat → List Nat
  | [] => []
  | id :: l => match alook bk id with
    | some (.ar _ false _ _) => id :: rws bk l
    | some (.oq _ false _ _ _) => id :: rws bk l
    | _ => rws bk l
theorem mem_rws {bk : List (Nat × Blk)} : ∀ {l : List Nat} {id : Nat}, id ∈ rws bk l ↔ id ∈ l ∧ ∃ b, alook bk id = some b ∧ b.info.rw = true
  | [], id => by simp [rws]
  | x :: l, id => by
    have ih := mem_rws (bk := bk) (l := l) (id := id)
    simp only [rws]
    have no : ∀ (h : ∀ b, alook bk x = some b → b.info.rw = false), (id ∈ rws bk l ↔ id ∈ x :: l ∧ ∃ b, alook bk id = some b ∧ b.info.rw = true) := by
      intro h
      rw [ih]
      constructor
      · rintro ⟨h1, h2⟩; exact ⟨List.mem_cons_of_mem _ h1, h2⟩
      · rintro ⟨h1, b, h2, h3⟩
        cases h1 with
        | head => rw [h b h2] at h3; cases h3
        | tail _ h1 => exact ⟨h1, b, h2, h3⟩
    have yes : ∀ b, alook bk x = some b → b.info.rw = true → (id ∈ x :: rws bk l ↔ id ∈ x :: l ∧ ∃ b, alook bk id = some b ∧ b.info.rw = true) := by
      intro b hb hr
      rw [List.mem_cons, List.mem_cons, ih]
      constructor
      · rintro (rfl | ⟨h1, h2⟩)
        · exact ⟨Or.inl rfl, b, hb, hr⟩
        · exact ⟨Or.inr h1, h2⟩
      · rintro ⟨rfl | h1, h2⟩
        · exact Or.inl rfl
        · exact Or.inr ⟨h1, h2⟩
    split
    · rename_i t cs cp hb; exact yes _ hb rfl
    · rename_i t n f cp hb; exact yes _ hb rfl
    · rename_i h1 h2
      refine no fun b hb => ?_
      cases b with
      | ar t ro cs cp => cases ro with
        | true => rfl
        | false => exact absurd hb (h1 t cs cp)
      | oq t ro n f cp => cases ro with
        | true => rfl
        | false => exact absurd hb (h2 t n f cp)
      | gone => rfl
def blkLocs (id : Nat) : Blk → List Loc
  | .ar _ _ cs _ => .k id :: cellLocs id 0 cs.length
  | _ => [.k id]
def locsOf (bk : List (Nat × Blk)) (id : Nat) : List Loc := match alook bk id with
  | some b => blkLocs id b
  | none => [.k id]
def sub (σ : St) (ids : List Nat) (ro : Bool) : St := { tm := [], bk := restr ids ro σ.bk, nx := σ.nx, nl := σ.nl, nn := σ.nn, lg := [], vr := [] }
def allKn (bk : List (Nat × Blk)) (ids : List Nat) : Bool := ids.all fun id => (alook bk id).isSome
/-! A block that keeps its shape behind a call is written cell by cell. -/
def shapeB (σ : St) (id : Nat) (b : Blk) : Bool := match alook σ.bk id, b with
  | some (.ar t ro cs cp), .ar t' ro' cs' cp' => Nat.beq t t' && (ro == ro') && Nat.beq cs.length cs'.length && decide (cp = cp')
  | _, _ => false
def sameS (σ : St) (ws : List Wr) (id : Nat) : Bool := ws.any fun y => match y with
  | .new i b => Nat.beq i id && shapeB σ i b
  | _ => false
def hasK (rl : List Loc) (id : Nat) : Bool := rl.any fun l => match l with
  | .k i => Nat.beq i id
  | _ => false
def hasC (rl : List Loc) (id off : Nat) : Bool := rl.any fun l => match l with
  | .c i o => Nat.beq i id && Nat.beq o off
  | _ => false
/-- No block is laid twice; one that keeps its shape has been looked at. -/
def newOk (σ : St) (rl : List Loc) (S : Nat → Bool) : List Nat → List Wr → Bool
  | _, [] => true
  | seen, .nm _ :: ws => newOk σ rl S seen ws
  | seen, .new id b :: ws => !memb seen id && (!S id || (shapeB σ id b && hasK rl id)) && newOk σ rl S (id :: seen) ws
  | _, _ => false
/-- The cells of a block that have been written. -/
def slimC (sk : Nat → Bool) (rl : List Loc) (id : Nat) : Nat → List Cv → List Wr
  | _, [] => []
  | off, c :: cs => match sk off && hasC rl id off with
    | true => slimC sk rl id (off + 1) cs
    | false => .cell id off c :: slimC sk rl id (off + 1) cs
def slimW (sk : Nat → Nat → Bool) (rl : List Loc) (S : Nat → Bool) : Wr → List Wr
  | .new id b => match S id, b with
    | true, .ar _ _ cs _ => slimC (sk id) rl id 0 cs
    | _, _ => [.new id b]
  | x => [x]
def slimE (sk : Nat → Nat → Bool) (σ : St) (E : OpE) : OpE := match newOk σ E.rl (sameS σ E.ws) [] E.ws with
  | true => { E with ws := E.ws.flatMap (slimW sk E.rl (sameS σ E.ws)) }
  | false => E
def slimT (sk : Nat → Nat → Bool) (σ : St) (T : Tree OpE) : Tree OpE := T.bind fun E => .leaf (slimE sk σ E)
/-- Behind the call: what is new, and what may have been written. -/
def callEnd (σ : St) (ids : List Nat) (wr : Bool) (v : Sv) (σ' : St) : Tree OpE :=
  let rw := bif wr then rws σ.bk ids else []
  let kids := fresh ids (reach σ'.bk 100000 (v.ids ++ rw.flatMap fun id => (gOf σ' id).ids) [])
  let nms := fresh σ.nl σ'.nl
  let L := rw ++ kids
  match kids.all (fun id => (alook σ.bk id).isNone) && (allKn σ'.bk kids && (L.all (fun id => (gOf σ' id).inB (ids ++ kids) σ'.nl && (gOf σ' id).rwB) && v.inB (ids ++ kids) σ'.nl)) with
  | true => .leaf ⟨some v, ids.flatMap (locsOf σ.bk) ++ (kids.map Loc.k ++ (nms.map Loc.n ++ σ.nl.map Loc.n)), nms.map Wr.nm ++ L.map fun id => .new id (gOf σ' id)⟩
  | false => .fail
def callS (tb : Tb) (wf : List FuncId) (call : CallF) (σ : St) (f : Operand) (args : List Operand) : Tree OpE := match evO σ f, evs σ args with
  | some (.one (.fn (.func g) caps)), some vs =>
    let ags := vs ++ caps.map pvSv
    let ids := reach σ.bk 100000 (ags.flatMap Sv.ids) []
    let wr := memb wf g
    match (alook tb.fn g).isSome && allKn σ.bk ids && (ags.all (Sv.inB ids σ.nl) && ids.all fun id => (gOf σ id).inB ids σ.nl) with
    | true => (call g ags (sub σ ids (!wr))).bind fun p => slimT (unW p.2.lg) σ (callEnd σ ids wr p.1 p.2)
    | false => .fail
  | _, _ => .fail
end
end Sx
end Go.Proofs.YtpdhkgfdmpofiaaGreatDoor
