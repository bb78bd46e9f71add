/-
  Structs and arrays held against each other.
-/
import Derived.Test.YtladkknbkgomfaaG11Plant
import Derived.ChangeKeysEq
set_option linter.unusedSimpArgs false
set_option linter.unusedVariables false
namespace Go.Proofs.Ytladkknbkgomfaa
namespace Sx
open Go.RowKit

section
variable {P : Program} {σ : St} {o : Oper} {tb : Tb}

/-- Both; and whether it stands written out. -/
def andQ : Bool × Bool → Bool × Bool → Bool × Bool
  | (r, true), q => match r with
    | true => q
    | false => (false, true)
  | (r, false), (r', true) => match r' with
    | true => (r, false)
    | false => (false, true)
  | (r, false), (r', false) => (r && r', false)
theorem andQ_1 {a b : Bool × Bool} : (andQ a b).1 = (a.1 && b.1) := by
  obtain ⟨r, l⟩ := a
  obtain ⟨r', l'⟩ := b
  cases l
  · cases l'
    · rfl
    · cases r' <;> simp [andQ]
  · cases r <;> rfl
abbrev EqF := TypeId → Sv → Sv → Option (Bool × Bool)
def both (a b : Option (Bool × Bool)) : Option (Bool × Bool) := match a, b with
  | some p, some q => some (andQ p q)
  | _, _ => none
def parts2 (tb : Tb) (f : EqF) (t : TypeId) (off : Nat) (cs ds : List Cv) : Option (Bool × Bool) := match tb.info t with
  | some i => match partL tb t i cs off, partL tb t i ds off with
    | some a, some b => f t a b
    | _, _ => none
  | none => none
def eqFs (tb : Tb) (f : EqF) (cs ds : List Cv) : List Field → Option (Bool × Bool)
  | [] => some (true, true)
  | fd :: fs => match fd.name == "_" with
    | true => none
    | false => both (parts2 tb f fd.type fd.offset cs ds) (eqFs tb f cs ds fs)
def eqIs (tb : Tb) (f : EqF) (el c : Nat) (cs ds : List Cv) : List Nat → Option (Bool × Bool)
  | [] => some (true, true)
  | i :: is => both (parts2 tb f el (i * c) cs ds) (eqIs tb f el c cs ds is)
def eqV (tb : Tb) : Nat → EqF
  | 0, _, _, _ => none
  | d + 1, t, v, u => match tb.und t, v, u with
    | some .bool, .one (.b p lp), .one (.b q lq) => some (p == q, lp && lq)
    | some (.int _), .one (.i k n ln), .one (.i k' m lm) => if k = k' then some (n == m, ln && lm) else none
    | some .string, .one (.s n ln), .one (.s m lm) => some (n == m, ln && lm)
    | some (.struct fs), .agg cs, .agg ds => match memb tb.eq t with
      | true => eqFs tb (eqV tb d) cs ds fs.toList
      | false => none
    | some (.array n el), .agg cs, .agg ds => match tb.info el with
      | some i => eqIs tb (eqV tb d) el i.size cs ds (List.range n)
      | none => none
    | _, _, _ => none
def EqFOk (P : Program) (d : Nat) (f : EqF) : Prop := ∀ t v u r, f t v u = some r → ∀ (e : Env) (w : World), (Op.equalIn d t (v.den e) (u.den e)).run P w = .ok r.1 w
theorem parts2_ok (hT : TbOk P tb) {d : Nat} {f : EqF} (hf : EqFOk P d f) {t off : Nat} {cs ds : List Cv} {r : Bool × Bool} (h : parts2 tb f t off cs ds = some r) (e : Env) (w : World) :
    ∃ a b, (part t (densA e cs) off).run P w = .ok a w ∧ (part t (densA e ds) off).run P w = .ok b w ∧ (Op.equalIn d t a b).run P w = .ok r.1 w := by
  unfold parts2 at h
  split at h
  · rename_i i hi
    split at h
    · rename_i a b ha hb
      exact ⟨_, _, (partL_run hT hi ha e w).1, (partL_run hT hi hb e w).1, hf _ _ _ _ h e w⟩
    · cases h
  · cases h
theorem both_some {a b : Option (Bool × Bool)} {r : Bool × Bool} (h : both a b = some r) : ∃ p q, a = some p ∧ b = some q ∧ r.1 = (p.1 && q.1) := by
  unfold both at h
  split at h
  · obtain rfl := Option.some.inj h
    exact ⟨_, _, rfl, rfl, andQ_1⟩
  · cases h
theorem eqFs_ok (hT : TbOk P tb) {d : Nat} {f : EqF} (hf : EqFOk P d f) {cs ds : List Cv} : ∀ {fs : List Field} {r : Bool × Bool}, eqFs tb f cs ds fs = some r → ∀ (e : Env) (w : World), (Op.eqFields d (densA e cs) (densA e ds) fs).run P w = .ok r.1 w
  | [], r, h, e, w => by
    obtain rfl := Option.some.inj h
    rfl
  | fd :: fs, r, h, e, w => by
    simp only [eqFs] at h
    split at h
    · cases h
    · rename_i hn
      obtain ⟨p, q, h1, h2, h3⟩ := both_some h
      obtain ⟨a, b, p1, p2, p3⟩ := parts2_ok hT hf h1 e w
      have hn' : fd.name ≠ "_" := by simpa using hn
      simp only [Op.eqFields, if_pos hn', Sem.run_bind, p1, p2, p3, Result.andThen_ok, h3]
      cases hp : p.1
      · rfl
      · simpa using eqFs_ok hT hf h2 e w
theorem eqIs_ok (hT : TbOk P tb) {d : Nat} {f : EqF} (hf : EqFOk P d f) {el c : Nat} {cs ds : List Cv} : ∀ {is : List Nat} {r : Bool × Bool}, eqIs tb f el c cs ds is = some r → ∀ (e : Env) (w : World), (Op.eqItems d el c (densA e cs) (densA e ds) is).run P w = .ok r.1 w
  | [], r, h, e, w => by
    obtain rfl := Option.some.inj h
    rfl
  | i :: is, r, h, e, w => by
    simp only [eqIs] at h
    obtain ⟨p, q, h1, h2, h3⟩ := both_some h
    obtain ⟨a, b, p1, p2, p3⟩ := parts2_ok hT hf h1 e w
    simp only [Op.eqItems, Sem.run_bind, p1, p2, p3, Result.andThen_ok, h3]
    cases hp : p.1
    · rfl
    · simpa using eqIs_ok hT hf h2 e w
theorem eqV_ok (hT : TbOk P tb) : ∀ (d k : Nat), EqFOk P (k + d) (eqV tb d)
  | 0, _, _, _, _, _, h => by cases h
  | d + 1, k, t, v, u, r, h => by
    intro e w
    rw [← Nat.add_assoc]
    simp only [eqV] at h
    split at h
    · rename_i p lp q lq hu
      obtain rfl := Option.some.inj h
      exact run_equalIn_bool' w _ t p q (hT.und hu)
    · rename_i k' n ln k'' m lm hu
      split at h
      · rename_i hk
        obtain rfl := Option.some.inj h
        subst hk
        exact run_equalIn_int w _ t _ _ n m (hT.und hu)
      · cases h
    · rename_i n ln m lm hu
      obtain rfl := Option.some.inj h
      show (Op.equalIn (k + d + 1) t (.string n) (.string m)).run P w = .ok (n == m) w
      rw [run_equalIn_string w _ t n m (hT.und hu), beq_toListBytes]
    · rename_i fs cs ds hu
      split at h
      · rename_i hm
        have hP := hT.und hu
        have hfs : P.fieldsOf t = fs := by simp [Program.fieldsOf, hP]
        show (Op.equalIn (k + d + 1) t (.agg (densA e cs)) (.agg (densA e ds))).run P w = _
        rw [run_equalIn_struct w _ t _ _ (by rw [hfs]; exact hP) (hT.eq t (memb_iff.1 hm)).1, hfs]
        exact eqFs_ok hT (eqV_ok hT d k) h e w
      · cases h
    · rename_i n el cs ds hu
      split at h
      · rename_i i hi
        have hP := hT.und hu
        show (Op.equalIn (k + d + 1) t (.agg (densA e cs)) (.agg (densA e ds))).run P w = _
        have hc : P.cellsOf el = i.size := by simp [Program.cellsOf, hT.info hi]
        rw [run_equalIn_array w _ _ _ hP (hT.info hi), hc]
        exact eqIs_ok hT (eqV_ok hT d k) h e w
      · cases h
    · cases h

def binA (tb : Tb) (op : BinOp) (t : TypeId) (x y : Operand) (vx vy : Sv) : Tree OpE := match vx, vy with
  | .agg cs, .agg ds => match memb tb.eq t, eqlB op, eqV tb 50 t (.agg cs) (.agg ds) with
    | true, some true, some (r, l) => valT (.one (.b r l))
    | true, some false, some (r, l) => valT (.one (.b (!r) l))
    | _, _, _ => .fail
  | vx, vy => binS tb op t x y vx vy
theorem binA_ok (hT : TbOk P tb) {op : BinOp} {t yt : TypeId} {x y : Operand} {vx vy : Sv} (ho : o.op = .binOp op t x y yt) (hx : evO σ x = some vx) (hy : evO σ y = some vy) : TreeOk P σ o (binA tb op t x y vx vy) := by
  unfold binA
  split
  · rename_i cs ds
    have go : ∀ {v : Sv}, (∀ (e : Env) (w : World), (do eqGuard op t x y (.agg (densA e cs)) (.agg (densA e ds)); binOp op t (.agg (densA e cs)) (.agg (densA e ds)) : Sem Value).run P w = .ok (v.den e) w) → (∀ s, v.sc s) → TreeOk P σ o (valT v) := by
      intro v h hs
      refine TreeOk.val fun s e a w hh => ⟨?_, hs s⟩
      obtain ⟨x1, _⟩ := hh x (by rw [ho]; simp [Op.operands]) _ hx
      obtain ⟨y1, _⟩ := hh y (by rw [ho]; simp [Op.operands]) _ hy
      unfold execOp
      simp only [ho]
      rw [x1, y1]
      exact runV (h e w)
    split
    · rename_i r l hm hop hv
      obtain rfl : op = .eql := by cases op <;> first | rfl | cases hop
      refine go (fun e w => ?_) (fun _ => trivial)
      rw [Sem.run_bind, run_eqGuard_agg w _ _ _ _ _ _ (hT.eq t (memb_iff.1 hm)).2]
      simp only [Result.andThen_ok]
      rw [run_eql_struct]
      have := eqV_ok hT 50 9950 _ _ _ _ hv e w
      rw [show (10000 : Nat) = 9950 + 50 from rfl]
      simp only [Sv.den] at this
      rw [this]
      rfl
    · rename_i r l hm hop hv
      obtain rfl : op = .neq := by cases op <;> first | rfl | cases hop
      refine go (fun e w => ?_) (fun _ => trivial)
      rw [Sem.run_bind, run_eqGuard_agg w _ _ _ _ _ _ (hT.eq t (memb_iff.1 hm)).2]
      simp only [Result.andThen_ok]
      rw [run_neq_struct]
      have := eqV_ok hT 50 9950 _ _ _ _ hv e w
      rw [show (10000 : Nat) = 9950 + 50 from rfl]
      simp only [Sv.den] at this
      rw [this]
      rfl
    · exact TreeOk.fail
  · exact binS_ok hT ho hx hy
end
end Sx
end Go.Proofs.Ytladkknbkgomfaa

/-
  All operations; a call of a function, by what is known of the function.
-/
set_option linter.unusedSimpArgs false
set_option linter.unusedVariables false
namespace Go.Proofs.Ytladkknbkgomfaa
namespace Sx
open Go.RowKit

section
variable {P : Program} {σ : St} {o : Oper} {tb : Tb}

def opt1 (σ : St) (x : Operand) (f : Sv → Tree OpE) : Tree OpE := match evO σ x with
  | some v => f v
  | none => .fail
def opt2 (σ : St) (x y : Operand) (f : Sv → Sv → Tree OpE) : Tree OpE := match evO σ x, evO σ y with
  | some v, some u => f v u
  | _, _ => .fail
theorem opt1_ok {x : Operand} {f : Sv → Tree OpE} (h : ∀ v, evO σ x = some v → TreeOk P σ o (f v)) : TreeOk P σ o (opt1 σ x f) := by
  unfold opt1
  split
  · rename_i v hv; exact h v hv
  · exact TreeOk.fail
theorem opt2_ok {x y : Operand} {f : Sv → Sv → Tree OpE} (h : ∀ v u, evO σ x = some v → evO σ y = some u → TreeOk P σ o (f v u)) : TreeOk P σ o (opt2 σ x y f) := by
  unfold opt2
  split
  · rename_i v u hv hu; exact h v u hv hu
  · exact TreeOk.fail
def builtinS (tb : Tb) (σ : St) (b : Builtin) (args : List Operand) (ts : List TypeId) : Tree OpE := match b, args, ts with
  | .len, [x], [t] => opt1 σ x (lenS tb t)
  | .max, [x, y], _ => opt2 σ x y (mmS true)
  | .min, [x, y], _ => opt2 σ x y (mmS false)
  | .append, [x, y], [t, t'] => opt2 σ x y (appendX tb σ t t')
  | .clear, [x], [t] => opt1 σ x (clearS tb σ t)
  | _, _, _ => .fail
def opS (tb : Tb) (σ : St) (kn : Kn) (o : Oper) : Tree OpE := match o.op with
  | .move x => optT ((evO σ x).map valT)
  | .assign x => optT ((evO σ x).map valT)
  | .pick c x y => pickS σ kn c x y
  | .alloc t => allocS tb σ t
  | .box t x => opt1 σ x (boxS σ t)
  | .build t ps => buildS tb σ t ps
  | .buildSlice t n ps => buildSliceE tb σ t n ps
  | .load t x => opt1 σ x (loadS tb σ t)
  | .store t x y => opt2 σ x y (storeS tb σ t)
  | .nilCheck x => opt1 σ x nilS
  | .binOp op t x y _ => opt2 σ x y (binA tb op t x y)
  | .unOp op _ x => opt1 σ x (unS op)
  | .convert s d x => opt1 σ x (convS tb s d)
  | .makeFunc f a b => funcS σ f a b
  | .slice t x l h m => opt1 σ x fun v => sliceX tb σ t v l h m
  | .fieldAddr t x f => opt1 σ x fun v => fieldAddrS tb t v f
  | .field t x f => opt1 σ x fun v => fieldS tb t v f
  | .indexAddr t x i => opt2 σ x i (indexAddrS tb σ t)
  | .index t x i => opt2 σ x i (indexS tb t)
  | .extract x i => opt1 σ x fun v => extractS v i
  | .call { callee := .builtin b, args := args, argTypes := ts } => builtinS tb σ b args.toList ts.toList
  | _ => .fail
theorem arr1 {α : Type} {a : Array α} {x : α} (h : a.toList = [x]) : a = #[x] := Array.ext' (by simpa using h)
theorem arr2 {α : Type} {a : Array α} {x y : α} (h : a.toList = [x, y]) : a = #[x, y] := Array.ext' (by simpa using h)
theorem builtinS_ok (hT : TbOk P tb) {b : Builtin} {args : Array Operand} {ts : Array TypeId} (ho : o.op = .call { callee := .builtin b, args := args, argTypes := ts }) : TreeOk P σ o (builtinS tb σ b args.toList ts.toList) := by
  unfold builtinS
  split
  · rename_i x t ha ht
    obtain rfl := arr1 ha
    obtain rfl := arr1 ht
    exact opt1_ok fun v hv => lenS_ok hT ho hv
  · rename_i x y _ ha
    obtain rfl := arr2 ha
    exact opt2_ok fun v u hv hu => mmS_ok (mx := true) ho hv hu
  · rename_i x y _ ha
    obtain rfl := arr2 ha
    exact opt2_ok fun v u hv hu => mmS_ok (mx := false) ho hv hu
  · rename_i x y t t' ha ht
    obtain rfl := arr2 ha
    obtain rfl := arr2 ht
    exact opt2_ok fun v u hv hu => appendX_ok hT ho hv hu
  · rename_i x t ha ht
    obtain rfl := arr1 ha
    obtain rfl := arr1 ht
    exact opt1_ok fun v hv => clearS_ok hT ho hv
  · exact TreeOk.fail
theorem opS_ok (hT : TbOk P tb) {kn : Kn} (hk : KnOk σ kn) : TreeOk P σ o (opS tb σ kn o) := by
  unfold opS
  split
  · rename_i x ho; exact movS_ok (Or.inl ho)
  · rename_i x ho; exact movS_ok (Or.inr ho)
  · rename_i c x y ho; exact pickS_ok hk ho
  · rename_i t ho; exact allocS_ok hT ho
  · rename_i t x ho; exact opt1_ok fun v hv => boxS_ok ho hv
  · rename_i t ps ho; exact buildS_ok hT ho
  · rename_i t n ps ho; exact buildSliceE_ok hT ho
  · rename_i t x ho; exact opt1_ok fun v hv => loadS_ok hT ho hv
  · rename_i t x y ho; exact opt2_ok fun v u hv hu => storeS_ok hT ho hv hu
  · rename_i x ho; exact opt1_ok fun v hv => nilS_ok ho hv
  · rename_i op t x y yt ho; exact opt2_ok fun v u hv hu => binA_ok hT ho hv hu
  · rename_i op t x ho; exact opt1_ok fun v hv => unS_ok ho hv
  · rename_i s d x ho; exact opt1_ok fun v hv => convS_ok hT ho hv
  · rename_i f a b ho; exact funcS_ok ho
  · rename_i t x l h m ho; exact opt1_ok fun v hv => sliceX_ok hT ho hv
  · rename_i t x f ho; exact opt1_ok fun v hv => fieldAddrS_ok hT ho hv
  · rename_i t x f ho; exact opt1_ok fun v hv => fieldS_ok hT ho hv
  · rename_i t x i ho; exact opt2_ok fun v u hv hu => indexAddrS_ok hT ho hv hu
  · rename_i t x i ho; exact opt2_ok fun v u hv hu => indexS_ok hT ho hv hu
  · rename_i x i ho; exact opt1_ok fun v hv => extractS_ok ho hv
  · rename_i b args ts ho; exact builtinS_ok hT ho
  · exact TreeOk.fail

/-- The same, for what runs other code. -/
def OpOkW (P : Program) (σ : St) (o : Oper) (E : OpE) : Prop :=
  ∀ (C : Ctx) (e : Env) (s : Sto) (a : Act) (w : World) (next : Act → World → Prop) (Q : Exit → Act → World → Prop), Hp C e s w → (∀ x ∈ o.op.operands, Sees σ s e a x) → (∀ l ∈ E.rl, s l = look σ l) →
    (∀ e' w' x, Agree s e e' → Hp C e' (upds s E.ws) w' → (∀ v, E.val = some v → x = v.den e' ∧ v.sc (upds s E.ws)) → (E.val = none → x = undef) → next (a.put o.dst x) w') → o.wp P a w next Q
theorem OpOk.toW {E : OpE} (h : OpOk P σ o E) : OpOkW P σ o E := by
  intro C e s a w next Q hp hx hl hn
  obtain ⟨nx, e', w', h1, h2, h3, h4⟩ := h C e s a w hp hx hl
  unfold Oper.wp
  rw [h1]
  cases hv : E.val with
  | none =>
    rw [hv] at h4
    obtain rfl : nx = .skip := h4
    exact hn e' w' undef h2 h3 (fun v hv' => by rw [hv] at hv'; cases hv') (fun _ => rfl)
  | some v =>
    rw [hv] at h4
    obtain ⟨rfl, hsc⟩ := h4
    exact hn e' w' _ h2 h3 (fun v' hv' => by rw [hv] at hv'; obtain rfl := Option.some.inj hv'; exact ⟨rfl, hsc⟩) (fun hv' => by rw [hv] at hv'; cases hv')
def TreeOkW (P : Program) (σ : St) (o : Oper) (t : Tree OpE) : Prop := ∀ Φ : OpE → Prop, t.All Φ → ∃ E, Φ E ∧ OpOkW P σ o E
theorem TreeOk.toW {t : Tree OpE} (h : TreeOk P σ o t) : TreeOkW P σ o t := fun Φ hΦ => let ⟨E, h1, h2⟩ := h Φ hΦ; ⟨E, h1, h2.toW⟩

/-! names that occur -/
def Pv.inB (K : List Nat) : Pv → Bool
  | .ptr id _ => memb K id
  | .val _ _ => true
def Sn.inB (N : List Nat) : Sn → Bool
  | .nam c => memb N c
  | _ => true
def Cv.inB (K N : List Nat) : Cv → Bool
  | .ptr id off => memb K id && off.inB N
  | .slc id off len cap => memb K id && off.inB N && len.inB N && cap.inB N
  | .fn _ caps => caps.all (Pv.inB K)
  | _ => true
def Sv.inB (K N : List Nat) : Sv → Bool
  | .one c => c.inB K N
  | .agg cs => cs.all (Cv.inB K N)
  | .tup vs => vs.all fun p => p.2.all (Cv.inB K N)
def cpIn (N : List Nat) : Option (Nat × Nat) → Bool
  | some (c, _) => memb N c
  | none => true
def Blk.inB (K N : List Nat) : Blk → Bool
  | .ar _ _ cs cp => cs.all (Cv.inB K N) && cpIn N cp
  | .oq _ _ _ _ cp => cpIn N cp
  | .gone => true
def stoOf (K N : List Nat) : Sto
  | .k id => if memb K id = true then some (.bk .gone) else none
  | .n c => if memb N c = true then some .nm else none
  | _ => none
theorem kn_stoOf {K N : List Nat} {id : Nat} (h : memb K id = true) : kn (stoOf K N) id := by unfold kn; simp [stoOf, h]
theorem knn_stoOf {K N : List Nat} {c : Nat} (h : memb N c = true) : knn (stoOf K N) c := by unfold knn; simp [stoOf, h]
theorem Sn.inB_sc {K N : List Nat} {x : Sn} (h : x.inB N = true) : x.sc (stoOf K N) := by
  cases x with
  | nam c => exact knn_stoOf h
  | _ => trivial
theorem Cv.inB_sc {K N : List Nat} {c : Cv} (h : c.inB K N = true) : c.sc (stoOf K N) := by
  cases c with
  | ptr id off =>
    simp only [Cv.inB, Bool.and_eq_true] at h
    exact ⟨kn_stoOf h.1, Sn.inB_sc h.2⟩
  | slc id off len cap =>
    simp only [Cv.inB, Bool.and_eq_true] at h
    exact ⟨kn_stoOf h.1.1.1, Sn.inB_sc h.1.1.2, Sn.inB_sc h.1.2, Sn.inB_sc h.2⟩
  | fn f caps =>
    intro p hp
    have := List.all_eq_true.1 h p hp
    cases p with
    | ptr id off => exact kn_stoOf this
    | val v l => trivial
  | _ => trivial
theorem allIn_sc {K N : List Nat} {cs : List Cv} (h : cs.all (Cv.inB K N) = true) : scs (stoOf K N) cs := fun c hc => Cv.inB_sc (List.all_eq_true.1 h c hc)
theorem Sv.inB_sc {K N : List Nat} {v : Sv} (h : v.inB K N = true) : v.sc (stoOf K N) := by
  cases v with
  | one c => exact Cv.inB_sc h
  | agg cs => exact allIn_sc h
  | tup vs => exact fun p hp => allIn_sc (List.all_eq_true.1 h p hp)

def Pv.ids : Pv → List Nat
  | .ptr id _ => [id]
  | .val _ _ => []
def Cv.ids : Cv → List Nat
  | .ptr id _ => [id]
  | .slc id _ _ _ => [id]
  | .fn _ caps => caps.flatMap Pv.ids
  | _ => []
def Sv.ids : Sv → List Nat
  | .one c => c.ids
  | .agg cs => cs.flatMap Cv.ids
  | .tup vs => vs.flatMap fun p => p.2.flatMap Cv.ids
def Blk.ids : Blk → List Nat
  | .ar _ _ cs _ => cs.flatMap Cv.ids
  | _ => []
/-- The blocks that are reached from some. -/
def reach (bk : List (Nat × Blk)) : Nat → List Nat → List Nat → List Nat
  | 0, _, acc => acc
  | _ + 1, [], acc => acc
  | n + 1, id :: l, acc => match memb acc id with
    | true => reach bk n l acc
    | false => match alook bk id with
      | some b => reach bk n (b.ids ++ l) (id :: acc)
      | none => reach bk n l acc
/-- A state cut down to some blocks. -/
def Blk.setRo (ro : Bool) : Blk → Blk
  | .ar t r cs cp => .ar t (ro || r) cs cp
  | .oq t r n f cp => .oq t (ro || r) n f cp
  | .gone => .gone
def restr (ids : List Nat) (ro : Bool) : List (Nat × Blk) → List (Nat × Blk)
  | [] => []
  | (k, b) :: l => match memb ids k with
    | true => (k, b.setRo ro) :: restr ids ro l
    | false => restr ids ro l
theorem alook_restr (ids : List Nat) (ro : Bool) (l : List (Nat × Blk)) (id : Nat) : alook (restr ids ro l) id = if memb ids id = true then (alook l id).map (Blk.setRo ro) else none := by
  induction l with
  | nil => simp [restr, alook]
  | cons x l ih =>
    obtain ⟨k, b⟩ := x
    simp only [restr]
    cases hm : memb ids k with
    | true =>
      simp only [alook]
      cases hb : Nat.beq k id with
      | true => obtain rfl := beq_iff'.1 hb; simp [hm]
      | false => exact ih
    | false =>
      simp only [alook]
      cases hb : Nat.beq k id with
      | true => obtain rfl := beq_iff'.1 hb; rw [ih]; simp [hm]
      | false => exact ih
def Blk.rwB : Blk → Bool
  | .ar _ ro _ _ => !ro
  | .oq _ ro _ _ _ => !ro
  | .gone => true

/-- A log names no write at a cell. -/
def unW (lg : List Wr) (id off : Nat) : Bool := lg.all fun x => match x with
  | .cell i o _ => !(Nat.beq i id && Nat.beq o off)
  | .new i _ => !Nat.beq i id
  | _ => true
/-- What the log does not name is as it was. -/
def KeepL (σ σ' : St) : Prop := ∀ id off, kn (look σ) id → unW σ'.lg id off = true → look σ' (.c id off) = look σ (.c id off)
theorem KeepL.refl (σ : St) : KeepL σ σ := fun _ _ _ _ => rfl
/-- What is known of a function at some arguments. -/
structure FunOk (P : Program) (f : FuncId) (args : List Sv) (σ : St) (v : Sv) (σ' : St) : Prop where
  run : ∀ (C : Ctx) (e : Env) (w : World), Hp C e (look σ) w → (∀ x ∈ args, x.sc (look σ)) →
    Calls P f (args.map (·.den e)).toArray w fun en w' => ∃ e', Agree (look σ) e e' ∧ Hp C e' (look σ') w' ∧ en = .returned (v.den e') ∧ v.sc (look σ')
  keep : KeepL σ σ'
abbrev CallF := FuncId → List Sv → St → Tree (Sv × St)
def CallFOk (P : Program) (call : CallF) : Prop := ∀ f args σ (Φ : Sv × St → Prop), (call f args σ).All Φ → ∃ v σ', Φ (v, σ') ∧ FunOk P f args σ v σ'

def pvSv : Pv → Sv
  | .ptr id off => .one (.ptr id (.lit off))
  | .val v l => .one (Cv.ofL l v)
theorem pvSv_den (p : Pv) (e : Env) : (pvSv p).den e = p.den e := by
  cases p with
  | ptr id off => rfl
  | val v l => exact Cv.ofL_den l v e
def evs (σ : St) : List Operand → Option (List Sv)
  | [] => some []
  | x :: xs => match evO σ x, evs σ xs with
    | some v, some vs => some (v :: vs)
    | _, _ => none
theorem evs_ok {s : Sto} {e : Env} {a : Act} : ∀ {xs : List Operand} {vs : List Sv}, evs σ xs = some vs → (∀ x ∈ xs, Sees σ s e a x) → xs.map a.eval = vs.map (·.den e)
  | [], vs, h, _ => by obtain rfl := Option.some.inj h; rfl
  | x :: xs, vs, h, hh => by
    simp only [evs] at h
    split at h
    · rename_i v vs' hv hvs
      obtain rfl := Option.some.inj h
      rw [List.map_cons, List.map_cons, (hh x List.mem_cons_self v hv).1, evs_ok hvs fun y hy => hh y (List.mem_cons_of_mem _ hy)]
    · cases h
def gOf (σ' : St) (id : Nat) : Blk := match alook σ'.bk id with
  | some b => b
  | none => .gone
def fresh : List Nat → List Nat → List Nat
  | _, [] => []
  | old, c :: l => match memb old c with
    | true => fresh old l
    | false => c :: fresh old l
theorem mem_fresh {old : List Nat} : ∀ {l : List Nat} {c : Nat}, c ∈ fresh old l ↔ c ∈ l ∧ memb old c = false
  | [], c => by simp [fresh]
  | x :: l, c => by
    simp only [fresh]
    cases h : memb old x with
    | true =>
      rw [mem_fresh (l := l)]
      constructor
      · rintro ⟨h1, h2⟩; exact ⟨List.mem_cons_of_mem _ h1, h2⟩
      · rintro ⟨h1, h2⟩
        cases h1 with
        | head => rw [h] at h2; cases h2
        | tail _ h1 => exact ⟨h1, h2⟩
    | false =>
      rw [List.mem_cons, mem_fresh (l := l)]
      constructor
      · rintro (rfl | ⟨h1, h2⟩)
        · exact ⟨List.mem_cons_self, h⟩
        · exact ⟨List.mem_cons_of_mem _ h1, h2⟩
      · rintro ⟨h1, h2⟩
        cases h1 with
        | head => exact Or.inl rfl
        | tail _ h1 => exact Or.inr ⟨h1, h2⟩
/-- Those of some blocks that may be written. -/
def rws (bk : List (Nat × Blk)) : List Nat → List Nat
  | [] => []
  | id :: l => match alook bk id with
    | some (.ar _ false _ _) => id :: rws bk l
    | some (.oq _ false _ _ _) => id :: rws bk l
    | _ => rws bk l
theorem mem_rws {bk : List (Nat × Blk)} : ∀ {l : List Nat} {id : Nat}, id ∈ rws bk l ↔ id ∈ l ∧ ∃ b, alook bk id = some b ∧ b.info.rw = true
  | [], id => by simp [rws]
  | x :: l, id => by
    have ih := mem_rws (bk := bk) (l := l) (id := id)
    simp only [rws]
    have no : ∀ (h : ∀ b, alook bk x = some b → b.info.rw = false), (id ∈ rws bk l ↔ id ∈ x :: l ∧ ∃ b, alook bk id = some b ∧ b.info.rw = true) := by
      intro h
      rw [ih]
      constructor
      · rintro ⟨h1, h2⟩; exact ⟨List.mem_cons_of_mem _ h1, h2⟩
      · rintro ⟨h1, b, h2, h3⟩
        cases h1 with
        | head => rw [h b h2] at h3; cases h3
        | tail _ h1 => exact ⟨h1, b, h2, h3⟩
    have yes : ∀ b, alook bk x = some b → b.info.rw = true → (id ∈ x :: rws bk l ↔ id ∈ x :: l ∧ ∃ b, alook bk id = some b ∧ b.info.rw = true) := by
      intro b hb hr
      rw [List.mem_cons, List.mem_cons, ih]
      constructor
      · rintro (rfl | ⟨h1, h2⟩)
        · exact ⟨Or.inl rfl, b, hb, hr⟩
        · exact ⟨Or.inr h1, h2⟩
      · rintro ⟨rfl | h1, h2⟩
        · exact Or.inl rfl
        · exact Or.inr ⟨h1, h2⟩
    split
    · rename_i t cs cp hb; exact yes _ hb rfl
    · rename_i t n f cp hb; exact yes _ hb rfl
    · rename_i h1 h2
      refine no fun b hb => ?_
      cases b with
      | ar t ro cs cp => cases ro with
        | true => rfl
        | false => exact absurd hb (h1 t cs cp)
      | oq t ro n f cp => cases ro with
        | true => rfl
        | false => exact absurd hb (h2 t n f cp)
      | gone => rfl
def blkLocs (id : Nat) : Blk → List Loc
  | .ar _ _ cs _ => .k id :: cellLocs id 0 cs.length
  | _ => [.k id]
def locsOf (bk : List (Nat × Blk)) (id : Nat) : List Loc := match alook bk id with
  | some b => blkLocs id b
  | none => [.k id]
def sub (σ : St) (ids : List Nat) (ro : Bool) : St := { tm := [], bk := restr ids ro σ.bk, nx := σ.nx, nl := σ.nl, nn := σ.nn, lg := [], vr := [] }
def allKn (bk : List (Nat × Blk)) (ids : List Nat) : Bool := ids.all fun id => (alook bk id).isSome
/-! A block that keeps its shape behind a call is written cell by cell. -/
def shapeB (σ : St) (id : Nat) (b : Blk) : Bool := match alook σ.bk id, b with
  | some (.ar t ro cs cp), .ar t' ro' cs' cp' => Nat.beq t t' && (ro == ro') && Nat.beq cs.length cs'.length && decide (cp = cp')
  | _, _ => false
def sameS (σ : St) (ws : List Wr) (id : Nat) : Bool := ws.any fun y => match y with
  | .new i b => Nat.beq i id && shapeB σ i b
  | _ => false
def hasK (rl : List Loc) (id : Nat) : Bool := rl.any fun l => match l with
  | .k i => Nat.beq i id
  | _ => false
def hasC (rl : List Loc) (id off : Nat) : Bool := rl.any fun l => match l with
  | .c i o => Nat.beq i id && Nat.beq o off
  | _ => false
/-- No block is laid twice; one that keeps its shape has been looked at. -/
def newOk (σ : St) (rl : List Loc) (S : Nat → Bool) : List Nat → List Wr → Bool
  | _, [] => true
  | seen, .nm _ :: ws => newOk σ rl S seen ws
  | seen, .new id b :: ws => !memb seen id && (!S id || (shapeB σ id b && hasK rl id)) && newOk σ rl S (id :: seen) ws
  | _, _ => false
/-- The cells of a block that have been written. -/
def slimC (sk : Nat → Bool) (rl : List Loc) (id : Nat) : Nat → List Cv → List Wr
  | _, [] => []
  | off, c :: cs => match sk off && hasC rl id off with
    | true => slimC sk rl id (off + 1) cs
    | false => .cell id off c :: slimC sk rl id (off + 1) cs
def slimW (sk : Nat → Nat → Bool) (rl : List Loc) (S : Nat → Bool) : Wr → List Wr
  | .new id b => match S id, b with
    | true, .ar _ _ cs _ => slimC (sk id) rl id 0 cs
    | _, _ => [.new id b]
  | x => [x]
def slimE (sk : Nat → Nat → Bool) (σ : St) (E : OpE) : OpE := match newOk σ E.rl (sameS σ E.ws) [] E.ws with
  | true => { E with ws := E.ws.flatMap (slimW sk E.rl (sameS σ E.ws)) }
  | false => E
def slimT (sk : Nat → Nat → Bool) (σ : St) (T : Tree OpE) : Tree OpE := T.bind fun E => .leaf (slimE sk σ E)
/-- Behind the call: what is new, and what may have been written. -/
def callEnd (σ : St) (ids : List Nat) (wr : Bool) (v : Sv) (σ' : St) : Tree OpE :=
  let rw := bif wr then rws σ.bk ids else []
  let kids := fresh ids (reach σ'.bk 100000 (v.ids ++ rw.flatMap fun id => (gOf σ' id).ids) [])
  let nms := fresh σ.nl σ'.nl
  let L := rw ++ kids
  match kids.all (fun id => (alook σ.bk id).isNone) && (allKn σ'.bk kids && (L.all (fun id => (gOf σ' id).inB (ids ++ kids) σ'.nl && (gOf σ' id).rwB) && v.inB (ids ++ kids) σ'.nl)) with
  | true => .leaf ⟨some v, ids.flatMap (locsOf σ.bk) ++ (kids.map Loc.k ++ (nms.map Loc.n ++ σ.nl.map Loc.n)), nms.map Wr.nm ++ L.map fun id => .new id (gOf σ' id)⟩
  | false => .fail
def callS (tb : Tb) (wf : List FuncId) (call : CallF) (σ : St) (f : Operand) (args : List Operand) : Tree OpE := match evO σ f, evs σ args with
  | some (.one (.fn (.func g) caps)), some vs =>
    let ags := vs ++ caps.map pvSv
    let ids := reach σ.bk 100000 (ags.flatMap Sv.ids) []
    let wr := memb wf g
    match (alook tb.fn g).isSome && allKn σ.bk ids && (ags.all (Sv.inB ids σ.nl) && ids.all fun id => (gOf σ id).inB ids σ.nl) with
    | true => (call g ags (sub σ ids (!wr))).bind fun p => slimT (unW p.2.lg) σ (callEnd σ ids wr p.1 p.2)
    | false => .fail
  | _, _ => .fail
end
end Sx
end Go.Proofs.Ytladkknbkgomfaa

/-
  A call of a function: what it leaves of the caller's blocks.
-/
set_option linter.unusedSimpArgs false
set_option linter.unusedVariables false
namespace Go.Proofs.Ytladkknbkgomfaa
namespace Sx
open Go.RowKit

section
variable {P : Program} {σ σ' : St} {o : Oper} {tb : Tb}

theorem upds_append (s : Sto) (a b : List Wr) : upds s (a ++ b) = upds (upds s a) b := by unfold upds; rw [List.foldl_append]
theorem upds_nms (s : Sto) (l : List Nat) : (∀ c, upds s (l.map Wr.nm) (.n c) = if c ∈ l then some .nm else s (.n c)) ∧ (∀ x, (∀ c, x ≠ .n c) → upds s (l.map Wr.nm) x = s x) := by
  induction l generalizing s with
  | nil => exact ⟨fun c => by simp [upds], fun _ _ => rfl⟩
  | cons d l ih =>
    obtain ⟨i1, i2⟩ := ih ((Wr.nm d).upd s)
    refine ⟨fun c => ?_, fun x hx => ?_⟩
    · show upds ((Wr.nm d).upd s) (l.map Wr.nm) (.n c) = _
      rw [i1]
      by_cases h : c ∈ l
      · simp [h]
      · rw [if_neg h]
        simp only [Wr.upd, Wr.fn]
        by_cases e : c = d
        · subst e; simp
        · simp [e, h]
    · show upds ((Wr.nm d).upd s) (l.map Wr.nm) x = _
      rw [i2 x hx]
      cases x with
      | n c => exact absurd rfl (hx c)
      | _ => rfl
theorem upds_news (g : Nat → Blk) (s : Sto) (l : List Nat) : (∀ i, upds s (l.map fun id => .new id (g id)) (.k i) = if i ∈ l then some (.bk (g i).info) else s (.k i)) ∧
    (∀ i o, upds s (l.map fun id => .new id (g id)) (.c i o) = if i ∈ l then ((g i).cell o).map .cv else s (.c i o)) ∧ (∀ c, upds s (l.map fun id => .new id (g id)) (.n c) = s (.n c)) ∧ ∀ t, upds s (l.map fun id => .new id (g id)) (.t t) = s (.t t) := by
  induction l generalizing s with
  | nil => exact ⟨fun i => by simp [upds], fun i o => by simp [upds], fun _ => rfl, fun _ => rfl⟩
  | cons d l ih =>
    obtain ⟨i1, i2, i3, i4⟩ := ih ((Wr.new d (g d)).upd s)
    refine ⟨fun i => ?_, fun i o => ?_, fun c => (i3 c).trans rfl, fun t => (i4 t).trans rfl⟩
    · show upds ((Wr.new d (g d)).upd s) (l.map fun id => .new id (g id)) (.k i) = _
      rw [i1, new_k]
      by_cases h : i ∈ l
      · simp [h]
      · rw [if_neg h]
        by_cases e : i = d
        · subst e; simp
        · simp [e, h]
    · show upds ((Wr.new d (g d)).upd s) (l.map fun id => .new id (g id)) (.c i o) = _
      rw [i2, new_c]
      by_cases h : i ∈ l
      · simp [h]
      · rw [if_neg h]
        by_cases e : i = d
        · subst e; simp
        · simp [e, h]
theorem gOf_info {id : Nat} {b : BI} (h : look σ' (.k id) = some (.bk b)) : (gOf σ' id).info = b := by
  simp only [look] at h
  unfold gOf
  cases hb : alook σ'.bk id with
  | none => rw [hb] at h; cases h
  | some x => rw [hb] at h; simpa using h
theorem look_of_gOf {id : Nat} (h : (gOf σ' id).info ≠ .gone) : look σ' (.k id) = some (.bk (gOf σ' id).info) := by
  unfold gOf at h ⊢
  simp only [look]
  cases hb : alook σ'.bk id with
  | none => rw [hb] at h; exact absurd rfl h
  | some x => rfl
theorem look_c_gOf (id off : Nat) : look σ' (.c id off) = ((gOf σ' id).cell off).map .cv := by
  unfold gOf
  simp only [look]
  cases hb : alook σ'.bk id with
  | none => rfl
  | some x => rfl
theorem gOf_inB {K N : List Nat} {id off : Nat} {v : Cv} (h : (gOf σ' id).inB K N = true) (hc : (gOf σ' id).cell off = some v) : v.inB K N = true := by
  cases hb : gOf σ' id with
  | ar t ro cs cp =>
    rw [hb] at h hc
    exact List.all_eq_true.1 (Bool.and_eq_true_iff.1 h).1 v (List.mem_of_getElem? hc)
  | oq t ro n f cp => rw [hb] at hc; cases hc
  | gone => rw [hb] at hc; cases hc
theorem setRo_info (ro : Bool) (b : Blk) : (b.setRo ro).info = match b.info with
    | .ar t r n cp => .ar t (ro || r) n cp
    | .oq t r n f cp => .oq t (ro || r) n f cp
    | .gone => .gone := by cases b <;> rfl
theorem setRo_cell (ro : Bool) (b : Blk) (o : Nat) : (b.setRo ro).cell o = b.cell o := by cases b <;> rfl
theorem mem_locs {bk : List (Nat × Blk)} {ids : List Nat} {id : Nat} (h : id ∈ ids) : Loc.k id ∈ ids.flatMap (locsOf bk) ∧ ∀ t ro cs cp off, alook bk id = some (.ar t ro cs cp) → off < cs.length → Loc.c id off ∈ ids.flatMap (locsOf bk) := by
  refine ⟨List.mem_flatMap.2 ⟨id, h, ?_⟩, fun t ro cs cp off hb ho => List.mem_flatMap.2 ⟨id, h, ?_⟩⟩
  · unfold locsOf
    split
    · rename_i b _; cases b <;> simp [blkLocs]
    · simp
  · unfold locsOf
    rw [hb]
    exact List.mem_cons_of_mem _ (mem_cellLocs (by omega) (by omega))


/-- What a callee may write: new blocks, and those that are handed to it. -/
def callCtx (e : Env) (s : Sto) (w : World) (ids : List Nat) (wr : Bool) : Ctx where
  M := fun b => w.heap.size ≤ b ∨ (wr = true ∧ ∃ id ∈ ids, ∃ b0, s (.k id) = some (.bk b0) ∧ b0.rw = true ∧ b = (e.pl id).1)
  pin := fun id => if memb ids id = true then some (e.pl id) else none
  pinn := fun _ => none
  w0 := w
theorem sub_k (ids : List Nat) (ro : Bool) (id : Nat) : look (sub σ ids ro) (.k id) = if memb ids id = true then (alook σ.bk id).map (fun b => .bk (b.setRo ro).info) else none := by
  simp only [look, sub, alook_restr]
  split
  · cases alook σ.bk id <;> rfl
  · rfl
theorem sub_c (ids : List Nat) (ro : Bool) (id o : Nat) : look (sub σ ids ro) (.c id o) = if memb ids id = true then look σ (.c id o) else none := by
  simp only [look, sub, alook_restr]
  split
  · cases alook σ.bk id with
    | none => rfl
    | some b => simp [setRo_cell]
  · rfl
theorem sub_n (ids : List Nat) (ro : Bool) (c : Nat) : look (sub σ ids ro) (.n c) = look σ (.n c) := rfl
theorem rw_live {b : BI} (h : b.rw = true) : b.live = true := by cases b <;> first | rfl | cases h
theorem setRo_rw {ro : Bool} {b : Blk} (h : (b.setRo ro).info.rw = true) : b.info.rw = true ∧ ro = false := by
  cases b with
  | ar t r cs cp => simp only [Blk.setRo, Blk.info, BI.rw, Bool.not_eq_true', Bool.or_eq_false_iff] at h ⊢; exact ⟨h.2, h.1⟩
  | oq t r n f cp => simp only [Blk.setRo, Blk.info, BI.rw, Bool.not_eq_true', Bool.or_eq_false_iff] at h ⊢; exact ⟨h.2, h.1⟩
  | gone => cases h
theorem setRo_live {ro : Bool} {b : Blk} : (b.setRo ro).info.live = b.info.live := by cases b <;> rfl
theorem setRo_cp {ro : Bool} {b : Blk} : (b.setRo ro).info.cp = b.info.cp ∧ (b.setRo ro).info.t = b.info.t ∧ (b.setRo ro).info.n = b.info.n := by cases b <;> exact ⟨rfl, rfl, rfl⟩
/-- The state that the callee sees, at the call. -/
theorem sub_hp {C : Ctx} {e : Env} {s : Sto} {w : World} (hp : Hp C e s w) {ids : List Nat} {wr : Bool} (hkn : allKn σ.bk ids = true) (hin : ∀ id ∈ ids, (gOf σ id).inB ids σ.nl = true)
    (hk : ∀ id ∈ ids, s (.k id) = look σ (.k id)) (hcl : ∀ id ∈ ids, ∀ t ro cs cp off, alook σ.bk id = some (.ar t ro cs cp) → off < cs.length → s (.c id off) = look σ (.c id off)) (_hn : ∀ c ∈ σ.nl, s (.n c) = look σ (.n c)) :
    Hp (callCtx e s w ids wr) e (look (sub σ ids (!wr))) w := by
  have hkn' : ∀ id ∈ ids, ∃ b, alook σ.bk id = some b := fun id hi => Option.isSome_iff_exists.1 (List.all_eq_true.1 hkn id hi)
  have S : Sub (stoOf ids σ.nl) (look (sub σ ids (!wr))) := by
    refine ⟨fun id h => ?_, fun c h => ?_⟩
    · unfold kn at h ⊢
      rw [sub_k]
      simp only [stoOf] at h
      split at h
      · rename_i hm
        obtain ⟨b, hb⟩ := hkn' id (memb_iff.1 hm)
        rw [if_pos hm, hb]; rfl
      · cases h
    · unfold knn at h ⊢
      rw [sub_n]
      simp only [stoOf] at h
      simp only [look]
      split at h
      · rename_i hm; rw [if_pos hm]; rfl
      · cases h
  -- what the sub-state says of a block, the caller's store says too
  have up : ∀ id b, look (sub σ ids (!wr)) (.k id) = some (.bk b) → id ∈ ids ∧ ∃ b0, alook σ.bk id = some b0 ∧ b = (b0.setRo (!wr)).info ∧ s (.k id) = some (.bk b0.info) := by
    intro id b h
    rw [sub_k] at h
    split at h
    · rename_i hm
      have hi := memb_iff.1 hm
      obtain ⟨b0, hb⟩ := hkn' id hi
      rw [hb] at h
      refine ⟨hi, b0, hb, by simpa using h.symm, ?_⟩
      rw [hk id hi]
      simp only [look, hb]
      rfl
    · cases h
  refine ⟨fun k hk => Or.inl hk, ?_, ?_, ?_, ?_, ?_, ?_, ?_, ?_, ⟨rfl, rfl, rfl, Nat.le_refl _, fun _ _ _ => rfl, hp.fr.glob fun k hk hm => by
    rcases hm with hm | ⟨_, id, _, b0, hb0, hr, rfl⟩
    · have := hp.fr.size; omega
    · exact hp.mu id b0 hb0 hr⟩⟩
  · intro id off v hv
    rw [sub_c] at hv
    split at hv
    · rename_i hm
      have hi := memb_iff.1 hm
      obtain ⟨b0, hb⟩ := hkn' id hi
      have hv' := hv
      simp only [look, hb, Option.bind_some] at hv'
      cases b0 with
      | ar t ro cs cp =>
        simp only [Blk.cell, Option.map_eq_some_iff, LV.cv.injEq] at hv'
        obtain ⟨c, hc, rfl⟩ := hv'
        have hlt := (List.getElem?_eq_some_iff.1 hc).1
        have h1 := hcl id hi t ro cs cp off hb hlt
        obtain ⟨h2, h3, h4⟩ := hp.cl id off c (h1.trans hv)
        have hg : gOf σ id = .ar t ro cs cp := by unfold gOf; rw [hb]
        refine ⟨(Cv.inB_sc (gOf_inB (σ' := σ) (hin id hi) (by rw [hg]; exact hc))).sub S, ⟨t, !wr || ro, cs.length, cp, ?_, hlt⟩, h4⟩
        rw [sub_k, if_pos hm, hb]
        rfl
      | oq t ro n f cp => cases hv'
      | gone => cases hv'
    · cases hv
  · intro id t n cp h off ho
    obtain ⟨hi, b0, hb, he, hs⟩ := up id _ h
    cases b0 with
    | ar t' ro cs cp' =>
      simp only [Blk.setRo, Blk.info, BI.ar.injEq] at he
      obtain ⟨rfl, hr, rfl, rfl⟩ := he
      obtain ⟨_, rfl⟩ := Bool.or_eq_false_iff.1 hr.symm
      exact hp.ar id _ _ _ hs off ho
    | oq t' ro n' f cp' => simp [Blk.setRo, Blk.info] at he
    | gone => simp [Blk.setRo, Blk.info] at he
  · intro id t ro n f cp h off ho
    obtain ⟨hi, b0, hb, he, hs⟩ := up id _ h
    cases b0 with
    | oq t' r n' f' cp' =>
      simp only [Blk.setRo, Blk.info, BI.oq.injEq] at he
      obtain ⟨rfl, hr, rfl, rfl, rfl⟩ := he
      obtain ⟨h1, h2⟩ := hp.oq id _ _ _ _ _ hs off ho
      refine ⟨h1, fun hro => ?_⟩
      rw [hro] at hr
      obtain ⟨_, rfl⟩ := Bool.or_eq_false_iff.1 hr.symm
      exact h2 rfl
    | ar t' ro cs cp' => simp [Blk.setRo, Blk.info] at he
    | gone => simp [Blk.setRo, Blk.info] at he
  · intro id b c es h hcp
    obtain ⟨hi, b0, hb, rfl, hs⟩ := up id _ h
    obtain ⟨e1, e2, e3⟩ := @setRo_cp (!wr) b0
    rw [e1] at hcp
    rw [e2, e3]
    obtain ⟨h1, h2⟩ := hp.cp id b0.info c es hs hcp
    refine ⟨?_, h2⟩
    unfold knn
    rw [sub_n]
    -- the capacity's name is one of the state's
    have hin' := hin id hi
    unfold gOf at hin'
    rw [hb] at hin'
    have hm : memb σ.nl c = true := by
      cases b0 with
      | ar t ro cs cp => obtain rfl : cp = some (c, es) := hcp; exact (Bool.and_eq_true_iff.1 hin').2
      | oq t ro n f cp => obtain rfl : cp = some (c, es) := hcp; exact hin'
      | gone => cases hcp
    simp only [look, if_pos hm]; rfl
  · intro id id' b b' h1 h2 h3 h4 hne
    obtain ⟨_, b0, _, rfl, hs⟩ := up id _ h1
    obtain ⟨_, b0', _, rfl, hs'⟩ := up id' _ h2
    exact hp.inj id id' _ _ hs hs' (setRo_rw h3).1 (by rw [setRo_live] at h4; exact h4) hne
  · intro id b h hl
    obtain ⟨_, b0, _, rfl, hs⟩ := up id _ h
    exact hp.lt id _ hs (by rw [setRo_live] at hl; exact hl)
  · intro id b h hr
    obtain ⟨hi, b0, _, rfl, hs⟩ := up id _ h
    obtain ⟨r1, r2⟩ := setRo_rw hr
    exact Or.inr ⟨by simpa using r2, id, hi, _, hs, r1, rfl⟩
  · refine ⟨fun id p hpin => ?_, fun c m hm => by cases hm⟩
    simp only [callCtx] at hpin
    split at hpin
    · rename_i hm
      obtain rfl := Option.some.inj hpin
      refine ⟨rfl, S.1 id (kn_stoOf hm)⟩
    · cases hpin

theorem gOf_cp {K N : List Nat} {id c es : Nat} (h : (gOf σ' id).inB K N = true) (hc : (gOf σ' id).info.cp = some (c, es)) : memb N c = true := by
  cases hb : gOf σ' id with
  | ar t ro cs cp => rw [hb] at h hc; obtain rfl : cp = some (c, es) := hc; exact (Bool.and_eq_true_iff.1 h).2
  | oq t ro n f cp => rw [hb] at h hc; obtain rfl : cp = some (c, es) := hc; exact h
  | gone => rw [hb] at hc; cases hc
/-- Behind the call, in the caller's terms. -/
theorem callEnd_hp {C : Ctx} {e e' : Env} {s : Sto} {w w' : World} {ids kids nms : List Nat} {wr : Bool} {v : Sv} (hp : Hp C e s w)
    (hk : ∀ id ∈ ids, s (.k id) = look σ (.k id)) (hkk : ∀ id ∈ kids, s (.k id) = none) (hkn : allKn σ.bk ids = true)
    (hnn : ∀ c ∈ nms, s (.n c) = none) (hno : ∀ c ∈ σ.nl, s (.n c) = look σ (.n c)) (hN : ∀ c, memb σ'.nl c = true → c ∈ nms ∨ c ∈ σ.nl) (_hN2 : ∀ c ∈ nms, memb σ'.nl c = true)
    (_hkids : allKn σ'.bk kids = true)
    (hL : ∀ id ∈ (bif wr then rws σ.bk ids else []) ++ kids, (gOf σ' id).inB (ids ++ kids) σ'.nl = true ∧ (gOf σ' id).rwB = true) (hv : v.inB (ids ++ kids) σ'.nl = true)
    (hA : Agree (look (sub σ ids (!wr))) e e') (hp' : Hp (callCtx e s w ids wr) e' (look σ') w') :
    ∃ e'', Agree s e e'' ∧ Hp C e'' (upds s (nms.map Wr.nm ++ ((bif wr then rws σ.bk ids else []) ++ kids).map fun id => .new id (gOf σ' id))) w' ∧ v.den e'' = v.den e' ∧ v.sc (upds s (nms.map Wr.nm ++ ((bif wr then rws σ.bk ids else []) ++ kids).map fun id => .new id (gOf σ' id))) := by
  generalize hLd : (bif wr then rws σ.bk ids else []) ++ kids = L at *
  generalize hT : upds s (nms.map Wr.nm ++ L.map fun id => .new id (gOf σ' id)) = T at *
  have hkn' : ∀ id ∈ ids, ∃ b, alook σ.bk id = some b := fun id hi => Option.isSome_iff_exists.1 (List.all_eq_true.1 hkn id hi)
  have Tk : ∀ i, T (.k i) = if i ∈ L then some (.bk (gOf σ' i).info) else s (.k i) := by
    intro i; rw [← hT, upds_append, (upds_news _ _ _).1, (upds_nms _ _).2 _ (by simp)]
  have Tc : ∀ i o, T (.c i o) = if i ∈ L then ((gOf σ' i).cell o).map .cv else s (.c i o) := by
    intro i o; rw [← hT, upds_append, (upds_news _ _ _).2.1, (upds_nms _ _).2 _ (by simp)]
  have Tn : ∀ c, T (.n c) = if c ∈ nms then some .nm else s (.n c) := by
    intro c; rw [← hT, upds_append, (upds_news _ _ _).2.2.1, (upds_nms _ _).1]
  -- the members of L
  have inL : ∀ i, i ∈ L ↔ (wr = true ∧ i ∈ rws σ.bk ids) ∨ i ∈ kids := by
    intro i; rw [← hLd, List.mem_append]; cases wr <;> simp
  have kidL : ∀ i ∈ kids, i ∈ L := fun i hi => (inL i).2 (Or.inr hi)
  have rwL : ∀ j b, j ∈ ids → s (.k j) = some (.bk b) → b.rw = true → wr = true → j ∈ L := by
    intro j b hj hs hr hw
    refine (inL j).2 (Or.inl ⟨hw, mem_rws.2 ⟨hj, ?_⟩⟩)
    obtain ⟨b0, hb⟩ := hkn' j hj
    rw [hk j hj] at hs
    simp only [look, hb, Option.map_some, Option.some.injEq, LV.bk.injEq] at hs
    exact ⟨b0, hb, by rw [hs]; exact hr⟩
  have LK : ∀ i ∈ L, memb (ids ++ kids) i = true := by
    intro i hi
    rw [memb_iff, List.mem_append]
    rcases (inL i).1 hi with ⟨_, h⟩ | h
    · exact Or.inl (mem_rws.1 h).1
    · exact Or.inr h
  -- the naming
  let e'' : Env := { pl := fun id => if memb kids id = true then e'.pl id else e.pl id, nm := fun c => if memb nms c = true then e'.nm c else e.nm c }
  have subk : ∀ id ∈ ids, kn (look (sub σ ids (!wr))) id := by
    intro id hi
    obtain ⟨b, hb⟩ := hkn' id hi
    unfold kn
    rw [sub_k, if_pos (memb_iff.2 hi), hb]; rfl
  have hAs : Agree s e e'' := by
    refine ⟨fun id hi => ?_, fun c hc => ?_⟩
    · show (if memb kids id = true then _ else _) = _
      rw [if_neg]
      intro hm
      unfold kn at hi; rw [hkk id (memb_iff.1 hm)] at hi; cases hi
    · show (if memb nms c = true then _ else _) = _
      rw [if_neg]
      intro hm
      unfold knn at hc; rw [hnn c (memb_iff.1 hm)] at hc; cases hc
  have plK : ∀ id, memb (ids ++ kids) id = true → e''.pl id = e'.pl id := by
    intro id hm
    show (if memb kids id = true then _ else _) = _
    split
    · rfl
    · rename_i hn
      rcases List.mem_append.1 (memb_iff.1 hm) with h | h
      · exact (hA.1 id (subk id h)).symm
      · exact absurd (memb_iff.2 h) hn
  have hAK : Agree (stoOf (ids ++ kids) σ'.nl) e' e'' := by
    refine ⟨fun id hi => plK id ?_, fun c hc => ?_⟩
    · unfold kn at hi; simp only [stoOf] at hi
      split at hi
      · assumption
      · cases hi
    · have hm : memb σ'.nl c = true := by
        unfold knn at hc; simp only [stoOf] at hc
        split at hc
        · assumption
        · cases hc
      show (if memb nms c = true then _ else _) = _
      split
      · rfl
      · rename_i hn
        rcases hN c hm with h | h
        · exact absurd (memb_iff.2 h) hn
        · refine (hA.2 c ?_).symm
          unfold knn; rw [sub_n]; simp only [look]
          rw [if_pos (memb_iff.2 h)]; rfl
  have hSK : Sub (stoOf (ids ++ kids) σ'.nl) T := by
    refine ⟨fun id hi => ?_, fun c hc => ?_⟩
    · have hm : memb (ids ++ kids) id = true := by
        unfold kn at hi; simp only [stoOf] at hi
        split at hi
        · assumption
        · cases hi
      unfold kn
      rw [Tk]
      split
      · rfl
      · rename_i hn
        rcases List.mem_append.1 (memb_iff.1 hm) with h | h
        · rw [hk id h]
          obtain ⟨b, hb⟩ := hkn' id h
          simp only [look, hb]; rfl
        · exact absurd (kidL id h) hn
    · have hm : memb σ'.nl c = true := by
        unfold knn at hc; simp only [stoOf] at hc
        split at hc
        · assumption
        · cases hc
      unfold knn
      rw [Tn]
      split
      · rfl
      · rename_i hn
        rcases hN c hm with h | h
        · exact absurd h hn
        · rw [hno c h]; simp only [look]; rw [if_pos (memb_iff.2 h)]; rfl
  have hSs : Sub s T := by
    refine ⟨fun id hi => ?_, fun c hc => ?_⟩
    · unfold kn; rw [Tk]; split
      · rfl
      · exact hi
    · unfold knn; rw [Tn]; split
      · rfl
      · exact hc
  -- what the callee may not write has stayed
  have keep : ∀ i b, i ∉ L → s (.k i) = some (.bk b) → b.live = true → w'.heap[(e.pl i).1]? = w.heap[(e.pl i).1]? := by
    intro i b hi hs hl
    refine hp'.fr.block _ (hp.lt i b hs hl) ?_
    rintro (h | ⟨hw, j, hj, b0, hb0, hr, he⟩)
    · have := hp.lt i b hs hl; omega
    · have hjL := rwL j b0 hj hb0 hr hw
      have hne : j ≠ i := fun e => hi (e ▸ hjL)
      exact hp.inj j i b0 b hb0 hs hr hl hne he.symm
  have plS : ∀ i b, i ∉ L → s (.k i) = some (.bk b) → e''.pl i = e.pl i := fun i b hi hs => hAs.1 i (by unfold kn; rw [hs]; rfl)
  have adS : ∀ i b o, i ∉ L → s (.k i) = some (.bk b) → e''.ad i o = e.ad i o := fun i b o hi hs => by unfold Env.ad; rw [plS i b hi hs]
  have adK : ∀ i o, i ∈ L → e''.ad i o = e'.ad i o := fun i o hi => by unfold Env.ad; rw [plK i (LK i hi)]
  have gk : ∀ i b, (gOf σ' i).info = b → b.live = true → look σ' (.k i) = some (.bk b) := by
    intro i b hb hl
    rw [← hb]
    refine look_of_gOf fun h => ?_
    rw [← hb, h] at hl; cases hl
  have rwM : ∀ i b, i ∈ L → (gOf σ' i).info = b → b.rw = true → (callCtx e s w ids wr).M (e'.pl i).1 := fun i b hi hb hr => hp'.mu i b (gk i b hb (rw_live hr)) hr
  have apart : ∀ i b j b', i ∉ L → s (.k i) = some (.bk b) → b.live = true → j ∈ L → (gOf σ' j).info = b' → b'.rw = true → (e'.pl j).1 ≠ (e.pl i).1 := by
    intro i b j b' hi hs hl hj hb hr he
    rcases rwM j b' hj hb hr with h | ⟨hw, k, hk', b0, hb0, hr0, he0⟩
    · have := hp.lt i b hs hl; omega
    · have hkL := rwL k b0 hk' hb0 hr0 hw
      have hne : k ≠ i := fun e => hi (e ▸ hkL)
      exact hp.inj k i b0 b hb0 hs hr0 hl hne (he0.symm.trans he)
  have rwOf : ∀ i ∈ L, (gOf σ' i).info.live = true → (gOf σ' i).info.rw = true := by
    intro i hi hl
    have := (hL i hi).2
    cases hb : gOf σ' i with
    | ar t ro cs cp => rw [hb] at this; exact this
    | oq t ro n f cp => rw [hb] at this; exact this
    | gone => rw [hb] at hl; cases hl
  refine ⟨e'', hAs, ⟨hp.new, ?_, ?_, ?_, ?_, ?_, ?_, ?_, ?_, ?_⟩, Sv.den_agree hAK (Sv.inB_sc hv), (Sv.inB_sc hv).sub hSK⟩
  · intro i off x hx
    rw [Tc] at hx
    by_cases hi : i ∈ L
    · rw [if_pos hi] at hx
      obtain ⟨c, hc, hce⟩ := Option.map_eq_some_iff.1 hx
      obtain rfl : c = x := by simpa using hce
      obtain ⟨h1, ⟨t, ro, n, cp, h2, h3⟩, h4⟩ := hp'.cl i off c ((look_c_gOf i off).trans hx)
      have hin := Cv.inB_sc (gOf_inB (hL i hi).1 hc)
      refine ⟨hin.sub hSK, ⟨t, ro, n, cp, ?_, h3⟩, ?_⟩
      · rw [Tk, if_pos hi, gOf_info h2]
      · rw [adK i off hi, h4, Cv.den_agree hAK hin]
    · rw [if_neg hi] at hx
      obtain ⟨h1, ⟨t, ro, n, cp, h2, h3⟩, h4⟩ := hp.cl i off x hx
      refine ⟨h1.sub hSs, ⟨t, ro, n, cp, by rw [Tk, if_neg hi]; exact h2, h3⟩, ?_⟩
      rw [adS i _ off hi h2, World.cell?_of_block (w := w) (keep i _ hi h2 rfl), h4, Cv.den_agree hAs h1]
  · intro i t n cp hx off ho
    rw [Tk] at hx
    by_cases hi : i ∈ L
    · rw [if_pos hi] at hx
      have hx' : (gOf σ' i).info = .ar t false n cp := by simpa using hx
      rw [adK i off hi]
      exact hp'.ar i t n cp (gk i _ hx' rfl) off ho
    · rw [if_neg hi] at hx
      have hkp := keep i _ hi hx rfl
      rw [adS i _ off hi hx, World.frozen?_of_block (w := w) hkp, World.cell?_of_block (w := w) hkp]
      exact hp.ar i t n cp hx off ho
  · intro i t ro n f cp hx off ho
    rw [Tk] at hx
    by_cases hi : i ∈ L
    · rw [if_pos hi] at hx
      have hx' : (gOf σ' i).info = .oq t ro n f cp := by simpa using hx
      rw [adK i off hi]
      exact hp'.oq i t ro n f cp (gk i _ hx' rfl) off ho
    · rw [if_neg hi] at hx
      have hkp := keep i _ hi hx rfl
      rw [adS i _ off hi hx, World.frozen?_of_block (w := w) hkp, World.cell?_of_block (w := w) hkp]
      exact hp.oq i t ro n f cp hx off ho
  · intro i b c es hx hcp
    rw [Tk] at hx
    have hl : b.live = true := by cases b <;> first | rfl | cases hcp
    by_cases hi : i ∈ L
    · rw [if_pos hi] at hx
      obtain rfl : (gOf σ' i).info = b := by simpa using hx
      obtain ⟨h1, h2⟩ := hp'.cp i _ c es (gk i _ rfl hl) hcp
      have hm := gOf_cp (hL i hi).1 hcp
      refine ⟨hSK.2 c (knn_stoOf hm), ?_⟩
      rw [plK i (LK i hi), hAK.2 c (knn_stoOf hm)]
      exact h2
    · rw [if_neg hi] at hx
      obtain ⟨h1, h2, cs, h3, h4⟩ := hp.cp i b c es hx hcp
      refine ⟨hSs.2 c h1, ?_⟩
      rw [plS i b hi hx, hAs.2 c h1]
      exact ⟨h2, cs, (keep i b hi hx hl).trans h3, h4⟩
  · intro i i' b b' h1 h2 h3 h4 hne
    rw [Tk] at h1 h2
    by_cases hi : i ∈ L
    · rw [if_pos hi] at h1
      have hb : (gOf σ' i).info = b := by simpa using h1
      by_cases hi' : i' ∈ L
      · rw [if_pos hi'] at h2
        have hb' : (gOf σ' i').info = b' := by simpa using h2
        rw [plK i (LK i hi), plK i' (LK i' hi')]
        exact hp'.inj i i' b b' (gk i b hb (rw_live h3)) (gk i' b' hb' h4) h3 h4 hne
      · rw [if_neg hi'] at h2
        rw [plK i (LK i hi), plS i' b' hi' h2]
        exact apart i' b' i b hi' h2 h4 hi hb h3
    · rw [if_neg hi] at h1
      by_cases hi' : i' ∈ L
      · rw [if_pos hi'] at h2
        have hb' : (gOf σ' i').info = b' := by simpa using h2
        rw [plS i b hi h1, plK i' (LK i' hi')]
        exact (apart i b i' b' hi h1 (rw_live h3) hi' hb' (by rw [← hb']; exact rwOf i' hi' (by rw [hb']; exact h4))).symm
      · rw [if_neg hi'] at h2
        rw [plS i b hi h1, plS i' b' hi' h2]
        exact hp.inj i i' b b' h1 h2 h3 h4 hne
  · intro i b hx hl
    rw [Tk] at hx
    by_cases hi : i ∈ L
    · rw [if_pos hi] at hx
      have hb : (gOf σ' i).info = b := by simpa using hx
      rw [plK i (LK i hi)]
      exact hp'.lt i b (gk i b hb hl) hl
    · rw [if_neg hi] at hx
      rw [plS i b hi hx]
      have h1 := hp.lt i b hx hl
      have h2 := hp'.fr.size
      simp only [callCtx] at h2
      omega
  · intro i b hx hr
    rw [Tk] at hx
    by_cases hi : i ∈ L
    · rw [if_pos hi] at hx
      have hb : (gOf σ' i).info = b := by simpa using hx
      rw [plK i (LK i hi)]
      rcases rwM i b hi hb hr with h | ⟨hw, k, hk', b0, hb0, hr0, he0⟩
      · exact hp.new _ (by have := hp.fr.size; omega)
      · rw [he0]; exact hp.mu k b0 hb0 hr0
    · rw [if_neg hi] at hx
      rw [plS i b hi hx]
      exact hp.mu i b hx hr
  · exact hp.pin.mono hAs hSs
  · have f1 := hp.fr
    have f2 := hp'.fr
    refine ⟨f2.os.trans f1.os, f2.tape.trans f1.tape, f2.output.trans f1.output, Nat.le_trans f1.size f2.size, fun k hk' hM => ?_, f1.gl⟩
    rw [← f1.block k hk' hM]
    refine f2.block k (show k < w.heap.size from Nat.lt_of_lt_of_le hk' f1.size) ?_
    rintro (h | ⟨hw, j, hj, b0, hb0, hr, he⟩)
    · have := f1.size
      omega
    · exact hM (by rw [he]; exact hp.mu j b0 hb0 hr)
end
end Sx
end Go.Proofs.Ytladkknbkgomfaa

/-
  Behind a call: a block that keeps its shape is written cell by cell, so that ways may meet.
-/
set_option linter.unusedSimpArgs false
set_option linter.unusedVariables false
namespace Go.Proofs.Ytladkknbkgomfaa
namespace Sx
open Go.RowKit

section
variable {P : Program} {σ : St} {o : Oper}
def lenAt (σ : St) (id : Nat) : Nat := match alook σ.bk id with
  | some (.ar _ _ cs _) => cs.length
  | _ => 0
def bey (σ : St) (S : Nat → Bool) : Loc → Bool
  | .c id off => S id && Nat.ble (lenAt σ id) off
  | _ => false
def Bey (σ : St) (S : Nat → Bool) (s0 s : Sto) : Sto := fun l => if bey σ S l = true then s0 l else s l
theorem upds_slimC (sk : Nat → Bool) (rl : List Loc) (id : Nat) : ∀ (cs : List Cv) (off : Nat) (s : Sto) (l : Loc), (∀ j, sk (off + j) = true → hasC rl id (off + j) = true → s (.c id (off + j)) = (cs[j]?).map .cv) → upds s (slimC sk rl id off cs) l = match l with
    | .c i o => if i = id ∧ off ≤ o ∧ o < off + cs.length then (cs[o - off]?).map .cv else s l
    | _ => s l
  | [], off, s, l, _ => by
    cases l with
    | c i o => dsimp only; rw [if_neg (by simp only [List.length_nil]; omega)]; rfl
    | _ => rfl
  | c :: cs, off, s, l, hs => by
    have pick : ∀ {i o : Nat} {X : Option LV}, (i = id → o = off → X = some (.cv c)) → (if i = id ∧ off + 1 ≤ o ∧ o < off + 1 + cs.length then (cs[o - (off + 1)]?).map .cv else X) = if i = id ∧ off ≤ o ∧ o < off + (c :: cs).length then ((c :: cs)[o - off]?).map .cv else X := by
      intro i o X hX
      simp only [List.length_cons]
      by_cases hi : i = id
      · subst hi
        by_cases ho : o = off
        · subst ho
          rw [if_neg (by omega), if_pos (by omega), hX rfl rfl]
          simp
        · by_cases hr : off + 1 ≤ o ∧ o < off + 1 + cs.length
          · rw [if_pos ⟨rfl, hr.1, hr.2⟩, if_pos (by omega)]
            rw [show o - off = (o - (off + 1)) + 1 by omega, List.getElem?_cons_succ]
          · rw [if_neg (fun h => hr h.2), if_neg (by omega)]
      · rw [if_neg (fun h => hi h.1), if_neg (fun h => hi h.1)]
    have nxt : ∀ j, sk (off + 1 + j) = true → hasC rl id (off + 1 + j) = true → s (.c id (off + 1 + j)) = (cs[j]?).map .cv := fun j h1 h2 => by
      have := hs (j + 1) (by rwa [show off + (j + 1) = off + 1 + j by omega]) (by rwa [show off + (j + 1) = off + 1 + j by omega])
      rw [show off + 1 + j = off + (j + 1) by omega]
      simpa using this
    simp only [slimC]
    split
    · rename_i hp
      obtain ⟨h1, h2⟩ := Bool.and_eq_true_iff.1 hp
      have h0 := hs 0 h1 h2
      rw [upds_slimC sk rl id cs (off + 1) s l nxt]
      cases l with
      | c i o =>
        dsimp only
        refine pick fun e1 e2 => ?_
        rw [e1, e2]
        simpa using h0
      | _ => rfl
    · show upds ((Wr.cell id off c).upd s) (slimC sk rl id (off + 1) cs) l = _
      rw [upds_slimC sk rl id cs (off + 1) _ l (fun j h1 h2 => by
        have hne : off + 1 + j ≠ off := by omega
        have e1 : ((Wr.cell id off c).upd s) (.c id (off + 1 + j)) = s (.c id (off + 1 + j)) := by simp [Wr.upd, Wr.fn, hne]
        rw [e1]
        exact nxt j h1 h2)]
      cases l with
      | c i o =>
        dsimp only
        rw [pick fun e1 e2 => by rw [e1, e2]; simp [Wr.upd, Wr.fn]]
        by_cases hh : i = id ∧ off ≤ o ∧ o < off + (c :: cs).length
        · rw [if_pos hh, if_pos hh]
        · rw [if_neg hh, if_neg hh]
          by_cases e : i = id ∧ o = off
          · exact absurd ⟨e.1, by omega, by simp only [List.length_cons]; omega⟩ hh
          · simp only [Wr.upd, Wr.fn, if_neg e, Option.getD_none]
      | _ => rfl
theorem shape_at {id : Nat} {b : Blk} (h : shapeB σ id b = true) : ∃ t ro cs cp cs', alook σ.bk id = some (.ar t ro cs cp) ∧ b = .ar t ro cs' cp ∧ cs.length = cs'.length := by
  unfold shapeB at h
  split at h
  · rename_i t ro cs cp t' ro' cs' cp' hb
    simp only [Bool.and_eq_true, decide_eq_true_eq] at h
    obtain ⟨⟨⟨h1, h2⟩, h3⟩, rfl⟩ := h
    obtain rfl := beq_iff'.1 h1
    obtain rfl : ro = ro' := by simpa using h2
    exact ⟨t, ro, cs, cp, cs', hb, rfl, beq_iff'.1 h3⟩
  · cases h
/-- A new block that is not one of those, and a name. -/
theorem slim_new {S : Nat → Bool} {s0 s : Sto} {id : Nat} {b : Blk} (hS : S id = false) : (Wr.new id b).upd (Bey σ S s0 s) = Bey σ S s0 ((Wr.new id b).upd s) := by
  funext l
  cases l with
  | k i =>
    by_cases e : i = id
    · subst e; simp [Wr.upd, Wr.fn, Bey, bey]
    · simp [Wr.upd, Wr.fn, Bey, bey, e]
  | c i off =>
    by_cases e : i = id
    · subst e; simp [Wr.upd, Wr.fn, Bey, bey, hS]
    · simp [Wr.upd, Wr.fn, Bey, bey, e]
  | _ => rfl
theorem slim_nm {S : Nat → Bool} {s0 s : Sto} {c : Nat} : (Wr.nm c).upd (Bey σ S s0 s) = Bey σ S s0 ((Wr.nm c).upd s) := by
  funext l
  cases l with
  | n d =>
    by_cases e : d = c
    · subst e; simp [Wr.upd, Wr.fn, Bey, bey]
    · simp [Wr.upd, Wr.fn, Bey, bey, e]
  | _ => rfl
theorem ble_ff {a b : Nat} (h : b < a) : Nat.ble a b = false := by
  cases hc : Nat.ble a b with
  | false => rfl
  | true => rw [Nat.ble_eq] at hc; omega
theorem slim_all {sk : Nat → Nat → Bool} {rl : List Loc} {S : Nat → Bool} {s0 : Sto} (hrl : ∀ l ∈ rl, s0 l = look σ l) : ∀ {ws : List Wr} {seen : List Nat} {s : Sto}, (∀ id b, Wr.new id b ∈ ws → S id = true → ∀ j, sk id j = true → look σ (.c id j) = (b.cell j).map .cv) → newOk σ rl S seen ws = true → (∀ id, memb seen id = false → s (.k id) = s0 (.k id) ∧ ∀ off, s (.c id off) = s0 (.c id off)) →
    upds (Bey σ S s0 s) (ws.flatMap (slimW sk rl S)) = Bey σ S s0 (upds s ws)
  | [], _, s, _, _, _ => rfl
  | .nm c :: ws, seen, s, hsk, h, inv => by
    rw [List.flatMap_cons, upds_append]
    show upds ((Wr.nm c).upd (Bey σ S s0 s)) _ = _
    rw [slim_nm]
    exact slim_all (ws := ws) (s := (Wr.nm c).upd s) hrl (fun id b hm => hsk id b (List.mem_cons_of_mem _ hm)) (show newOk σ rl S seen ws = true from h) (fun id hid => inv id hid)
  | .tm _ _ :: _, _, _, _, h, _ => by cases h
  | .ft _ :: _, _, _, _, h, _ => by cases h
  | .cell _ _ _ :: _, _, _, _, h, _ => by cases h
  | .new id b :: ws, seen, s, hsk, h, inv => by
    simp only [newOk, Bool.and_eq_true, Bool.not_eq_true'] at h
    obtain ⟨⟨h1, h2⟩, h3⟩ := h
    have inv' : ∀ i, memb (id :: seen) i = false → ((Wr.new id b).upd s) (.k i) = s0 (.k i) ∧ ∀ off, ((Wr.new id b).upd s) (.c i off) = s0 (.c i off) := by
      intro i hi
      simp only [memb] at hi
      split at hi
      · cases hi
      · rename_i hne
        have hne' : i ≠ id := fun e => beq_ff.1 hne e.symm
        obtain ⟨q1, q2⟩ := inv i hi
        refine ⟨?_, fun off => ?_⟩
        · simp only [Wr.upd, Wr.fn, if_neg hne', Option.getD_none]; exact q1
        · simp only [Wr.upd, Wr.fn, if_neg hne', Option.getD_none]; exact q2 off
    rw [List.flatMap_cons, upds_append]
    show _ = Bey σ S s0 (upds ((Wr.new id b).upd s) ws)
    rw [← slim_all hrl (fun i b' hm => hsk i b' (List.mem_cons_of_mem _ hm)) h3 inv']
    congr 1
    cases hS : S id with
    | false =>
      have e1 : slimW sk rl S (.new id b) = [.new id b] := by simp [slimW, hS]
      rw [e1]
      exact slim_new hS
    | true =>
      simp only [hS, Bool.not_true, Bool.false_or, Bool.and_eq_true] at h2
      obtain ⟨t, ro, cs, cp, cs', hb, rfl, hlen⟩ := shape_at h2.1
      have hk : look σ (.k id) = some (.bk (.ar t ro cs'.length cp)) := by simp only [look, hb, Option.map_some, Blk.info, hlen]
      have hc : ∀ off, look σ (.c id off) = (cs[off]?).map .cv := fun off => by simp only [look, hb, Option.bind_some, Blk.cell]
      have hl : lenAt σ id = cs'.length := by simp only [lenAt, hb, hlen]
      have e1 : slimW sk rl S (.new id (.ar t ro cs' cp)) = slimC (sk id) rl id 0 cs' := by simp [slimW, hS]
      have k0 : s0 (.k id) = look σ (.k id) := by
        obtain ⟨l, hl1, hl2⟩ := List.any_eq_true.1 h2.2
        cases l with
        | k i => obtain rfl := beq_iff'.1 hl2; exact hrl _ hl1
        | _ => cases hl2
      obtain ⟨v1, v2⟩ := inv id h1
      rw [e1]
      funext l
      rw [upds_slimC (sk id) rl id cs' 0 _ l (fun j hj1 hj => by
        have h0 : s0 (.c id (0 + j)) = look σ (.c id (0 + j)) := by
          obtain ⟨l, hl1, hl2⟩ := List.any_eq_true.1 hj
          cases l with
          | c i o =>
            simp only [Bool.and_eq_true] at hl2
            obtain rfl := beq_iff'.1 hl2.1
            obtain rfl := beq_iff'.1 hl2.2
            exact hrl _ hl1
          | _ => cases hl2
        have h9 := hsk id _ List.mem_cons_self hS (0 + j) hj1
        rw [Nat.zero_add] at h0 h9 ⊢
        have h9 : look σ (.c id j) = (cs'[j]?).map .cv := h9
        unfold Bey
        split
        · rw [h0, h9]
        · rw [v2, h0, h9])]
      cases l with
      | k i =>
        dsimp only
        by_cases e : i = id
        · subst e
          simp only [Bey, bey, Wr.upd, Wr.fn, Blk.info, if_true, Option.getD_some, Bool.false_eq_true, if_false]
          rw [v1, k0, hk]
        · simp [Wr.upd, Wr.fn, Bey, bey, e]
      | c i off =>
        dsimp only
        by_cases e : i = id
        · subst e
          by_cases ho : off < cs'.length
          · have hb' : bey σ S (.c i off) = false := by
              simp only [bey, hS, Bool.true_and, hl]
              exact ble_ff ho
            rw [if_pos ⟨rfl, Nat.zero_le _, by omega⟩]
            simp [Bey, hb', Wr.upd, Wr.fn, Blk.cell]
          · have hb' : bey σ S (.c i off) = true := by
              simp only [bey, hS, Bool.true_and, hl]
              rw [Nat.ble_eq]; omega
            rw [if_neg (by omega)]
            simp only [Bey, hb', if_true]
        · rw [if_neg (fun h => e h.1)]
          simp [Wr.upd, Wr.fn, Bey, bey, e]
      | _ => rfl
theorem Bey_sub {S : Nat → Bool} {s0 s : Sto} : Sub s (Bey σ S s0 s) := ⟨fun _ h => h, fun _ h => h⟩
/-- Memory is as the store says, also where what is beyond a block's end is as it was. -/
theorem Hp.bey {C : Ctx} {e0 e : Env} {S : Nat → Bool} {s0 s : Sto} {w0 w : World} (h0 : Hp C e0 s0 w0) (inv : ∀ id, S id = true → s0 (.k id) = look σ (.k id)) (hS : ∀ id, S id = true → ∃ t ro cs cp, alook σ.bk id = some (.ar t ro cs cp)) (h : Hp C e s w) : Hp C e (Bey σ S s0 s) w := by
  refine ⟨h.new, ?_, h.ar, h.oq, h.cp, h.inj, h.lt, h.mu, h.pin.mono (Agree.refl _ _) Bey_sub, h.fr⟩
  intro id off v hv
  unfold Bey at hv
  split at hv
  · rename_i hb
    exfalso
    simp only [Sx.bey, Bool.and_eq_true, Nat.ble_eq] at hb
    obtain ⟨_, ⟨t, ro, n, cp, h2, h3⟩, _⟩ := h0.cl id off v hv
    obtain ⟨t', ro', cs, cp', h4⟩ := hS id hb.1
    rw [inv id hb.1] at h2
    have h5 := hb.2
    simp only [lenAt, h4] at h5
    simp only [look, h4, Option.map_some, Blk.info, Option.some.injEq, LV.bk.injEq, BI.ar.injEq] at h2
    omega
  · obtain ⟨h1, h2, h3⟩ := h.cl id off v hv
    exact ⟨h1.sub Bey_sub, h2, h3⟩
theorem newOk_at {rl : List Loc} {S : Nat → Bool} : ∀ {ws : List Wr} {seen : List Nat}, newOk σ rl S seen ws = true → ∀ {id b}, Wr.new id b ∈ ws → S id = true → shapeB σ id b = true ∧ hasK rl id = true
  | [], _, _, _, _, hm, _ => by cases hm
  | .nm c :: ws, seen, h, id, b, hm, hS => by
    cases hm with
    | tail _ hm => exact newOk_at (ws := ws) (seen := seen) h hm hS
  | .tm _ _ :: _, _, h, _, _, _, _ => by cases h
  | .ft _ :: _, _, h, _, _, _, _ => by cases h
  | .cell _ _ _ :: _, _, h, _, _, _, _ => by cases h
  | .new i b' :: ws, seen, h, id, b, hm, hS => by
    simp only [newOk, Bool.and_eq_true] at h
    cases hm with
    | head =>
      have := h.1.2
      rw [hS] at this
      simpa using this
    | tail _ hm => exact newOk_at h.2 hm hS
theorem OpOkW.slim {sk : Nat → Nat → Bool} {E : OpE} (hsk : ∀ id b, Wr.new id b ∈ E.ws → sameS σ E.ws id = true → ∀ j, sk id j = true → look σ (.c id j) = (b.cell j).map .cv) (h : OpOkW P σ o E) : OpOkW P σ o (slimE sk σ E) := by
  unfold slimE
  split
  · rename_i hn
    intro C e s a w next Q hp hx hl hnx
    have hS : ∀ id, sameS σ E.ws id = true → ∃ b, Wr.new id b ∈ E.ws ∧ shapeB σ id b = true := by
      intro id hid
      obtain ⟨y, hy, hy2⟩ := List.any_eq_true.1 hid
      cases y with
      | new i b =>
        simp only [Bool.and_eq_true] at hy2
        obtain rfl := beq_iff'.1 hy2.1
        exact ⟨b, hy, hy2.2⟩
      | _ => cases hy2
    have inv : ∀ id, sameS σ E.ws id = true → s (.k id) = look σ (.k id) := by
      intro id hid
      obtain ⟨b, hb, _⟩ := hS id hid
      obtain ⟨l, hl1, hl2⟩ := List.any_eq_true.1 (newOk_at hn hb hid).2
      cases l with
      | k i => obtain rfl := beq_iff'.1 hl2; exact hl _ hl1
      | _ => cases hl2
    have key : upds s (E.ws.flatMap (slimW sk E.rl (sameS σ E.ws))) = Bey σ (sameS σ E.ws) s (upds s E.ws) := by
      have := slim_all (s0 := s) (s := s) hl hsk hn (fun _ _ => ⟨rfl, fun _ => rfl⟩)
      have e0 : Bey σ (sameS σ E.ws) s s = s := by funext l; unfold Bey; split <;> rfl
      rwa [e0] at this
    refine h C e s a w next Q hp hx hl fun e' w' x hA hp' hv hn' => hnx e' w' x hA ?_ ?_ hn'
    · show Hp C e' (upds s (E.ws.flatMap (slimW sk E.rl (sameS σ E.ws)))) w'
      rw [key]
      exact hp.bey inv (fun id hid => by
        obtain ⟨b, _, hb⟩ := hS id hid
        obtain ⟨t, ro, cs, cp, _, h1, _⟩ := shape_at hb
        exact ⟨t, ro, cs, cp, h1⟩) hp'
    · intro v hv'
      obtain ⟨h1, h2⟩ := hv v hv'
      refine ⟨h1, ?_⟩
      show v.sc (upds s (E.ws.flatMap (slimW sk E.rl (sameS σ E.ws))))
      rw [key]
      exact h2.sub Bey_sub
  · exact h
theorem sameS_kn {ws : List Wr} {id : Nat} (h : sameS σ ws id = true) : ∃ b, alook σ.bk id = some b := by
  obtain ⟨y, hy, hy2⟩ := List.any_eq_true.1 h
  cases y with
  | new i b =>
    simp only [Bool.and_eq_true] at hy2
    obtain rfl := beq_iff'.1 hy2.1
    obtain ⟨t, ro, cs, cp, _, h1, _⟩ := shape_at hy2.2
    exact ⟨_, h1⟩
  | _ => cases hy2
end
end Sx
end Go.Proofs.Ytladkknbkgomfaa

/-
  One operation of a region, with its guard; a region.
-/
set_option linter.unusedSimpArgs false
set_option linter.unusedVariables false
namespace Go.Proofs.Ytladkknbkgomfaa
namespace Sx
open Go.RowKit

section
variable {P : Program} {σ : St} {o : Oper} {tb : Tb}

theorem callEnd_ok {ids : List Nat} {wr : Bool} {g : FuncId} {ags : List Sv} {v : Sv} {σ' : St} {c : Call} {f : Operand} {vs : List Sv} {caps : List Pv} (hT : TbOk P tb) (hg : (alook tb.fn g).isSome = true)
    (ho : o.op = .call c) (hcl : c.callee = .value f) (hf : evO σ f = some (.one (.fn (.func g) caps))) (hvs : evs σ c.args.toList = some vs) (has : ags = vs ++ caps.map pvSv)
    (hkn : allKn σ.bk ids = true) (hin : ags.all (Sv.inB ids σ.nl) = true) (hin2 : (ids.all fun id => (gOf σ id).inB ids σ.nl) = true) (hfn : FunOk P g ags (sub σ ids (!wr)) v σ') : TreeOkW P σ o (callEnd σ ids wr v σ') := by
  unfold callEnd
  simp only []
  split
  · rename_i hb
    simp only [Bool.and_eq_true] at hb
    obtain ⟨b1, b2, b3, b4⟩ := hb
    intro Φ hΦ
    refine ⟨_, hΦ, ?_⟩
    intro C e s a w next Q hp hx hl hn
    simp only [List.mem_append] at hl
    have h1 : ∀ id ∈ ids, s (.k id) = look σ (.k id) := fun id hi => hl _ (Or.inl (mem_locs hi).1)
    have h2 : ∀ id ∈ ids, ∀ t ro cs cp off, alook σ.bk id = some (.ar t ro cs cp) → off < cs.length → s (.c id off) = look σ (.c id off) := fun id hi t ro cs cp off hb ho => hl _ (Or.inl ((mem_locs hi).2 t ro cs cp off hb ho))
    have h3 : ∀ c ∈ σ.nl, s (.n c) = look σ (.n c) := fun c hc => hl _ (Or.inr (Or.inr (Or.inr (List.mem_map.2 ⟨c, hc, rfl⟩))))
    have hsub := sub_hp (wr := wr) hp hkn (fun id hi => List.all_eq_true.1 hin2 id hi) h1 h2 h3
    have S : Sub (stoOf ids σ.nl) (look (sub σ ids (!wr))) := by
      refine ⟨fun id h => ?_, fun c h => ?_⟩
      · unfold kn at h ⊢
        rw [sub_k]
        simp only [stoOf] at h
        split at h
        · rename_i hm
          obtain ⟨b, hb⟩ := Option.isSome_iff_exists.1 (List.all_eq_true.1 hkn id (memb_iff.1 hm))
          rw [if_pos hm, hb]; rfl
        · cases h
      · unfold knn at h ⊢
        rw [sub_n]
        simp only [stoOf] at h
        simp only [look]
        split at h
        · rename_i hm; rw [if_pos hm]; rfl
        · cases h
    have hargs : ∀ x ∈ ags, x.sc (look (sub σ ids (!wr))) := fun x hxm => (Sv.inB_sc (List.all_eq_true.1 hin x hxm)).sub S
    have hops : ∀ x, (x = f ∨ x ∈ c.args.toList) → Sees σ s e a x := by
      intro x hxm
      refine hx x ?_
      rw [ho]
      simp only [Op.operands, Call.operands, hcl]
      rcases hxm with rfl | hxm
      · simp
      · simp; exact Or.inr (by simpa using hxm)
    have hcall := hfn.run _ e w hsub hargs
    have hfv : a.eval f = .func (.func g) #[] (caps.map (·.den e)).toArray := (hops f (Or.inl rfl) _ hf).1
    have hav : c.args.map a.eval = (vs.map (·.den e)).toArray := by
      have harr : ∀ A : Array Operand, A.map a.eval = (A.toList.map a.eval).toArray := fun ⟨l⟩ => by simp
      rw [harr, evs_ok hvs fun x hxm => hops x (Or.inr hxm)]
    obtain ⟨gf, hgf⟩ := Option.isSome_iff_exists.1 hg
    have hent := (hT.fn.at_ hgf).2
    have hrun : (execOp a.eval o).run P w = .ok (.enter g (ags.map (·.den e)).toArray) w := by
      unfold execOp
      simp only [ho]
      simp only [resolve, hcl, hfv, Deferred.ofValue, Sem.run_bind, Sem.run_pure, Result.andThen_ok, invoke, hav]
      rw [hent]
      congr 2
      rw [has]
      simp only [List.map_append, List.map_map]
      apply Array.ext'
      simp [Function.comp_def, pvSv_den]
    unfold Oper.wp
    rw [hrun]
    show Calls P g _ w _
    refine hcall.mono ?_
    rintro en w' ⟨e', hA, hp', rfl, hsc⟩
    have hkids : ∀ id ∈ fresh ids (reach σ'.bk 100000 (v.ids ++ (bif wr then rws σ.bk ids else []).flatMap fun id => (gOf σ' id).ids) []), s (.k id) = none := by
      intro id hi
      rw [hl _ (Or.inr (Or.inl (List.mem_map.2 ⟨id, hi, rfl⟩)))]
      have := List.all_eq_true.1 b1 id hi
      simp only [look]
      rw [show alook σ.bk id = none by simpa using this]
      rfl
    have hnms : ∀ c ∈ fresh σ.nl σ'.nl, s (.n c) = none := by
      intro c hc
      rw [hl _ (Or.inr (Or.inr (Or.inl (List.mem_map.2 ⟨c, hc, rfl⟩))))]
      simp only [look]
      rw [if_neg (by rw [(mem_fresh.1 hc).2]; decide)]
    obtain ⟨e'', r1, r2, r3, r4⟩ := callEnd_hp hp h1 hkids hkn hnms h3 (fun c hm => by
        by_cases hh : memb σ.nl c = true
        · exact Or.inr (memb_iff.1 hh)
        · exact Or.inl (mem_fresh.2 ⟨memb_iff.1 hm, by simpa using hh⟩)) (fun c hc => memb_iff.2 (mem_fresh.1 hc).1) b2 (fun id hi => by
        have := List.all_eq_true.1 b3 id hi
        exact Bool.and_eq_true_iff.1 this) b4 hA hp'
    exact hn e'' w' _ r1 r2 (fun v' hv' => by obtain rfl := Option.some.inj hv'; exact ⟨r3.symm, r4⟩) (fun hv' => by cases hv')
  · exact fun Φ hΦ => hΦ.elim
theorem callS_ok {wf : List FuncId} {call : CallF} (hT : TbOk P tb) (hc : CallFOk P call) {c : Call} {f : Operand} (ho : o.op = .call c) (hcl : c.callee = .value f) : TreeOkW P σ o (callS tb wf call σ f c.args.toList) := by
  unfold callS
  split
  · rename_i g caps vs hf hvs
    simp only []
    split
    · rename_i hb
      simp only [Bool.and_eq_true] at hb
      obtain ⟨⟨b0, b1⟩, b2, b3⟩ := hb
      intro Φ hΦ
      rw [Tree.All_bind] at hΦ
      obtain ⟨v, σ', h1, h2⟩ := hc _ _ _ _ hΦ
      unfold slimT at h1
      rw [Tree.All_bind] at h1
      have hE : ∃ E, Φ (slimE (unW σ'.lg) σ E) ∧ OpOkW P σ o E ∧ ∀ id b, Wr.new id b ∈ E.ws → b = gOf σ' id ∧ ((∃ x, alook σ.bk id = some x) → memb (reach σ.bk 100000 ((vs ++ caps.map pvSv).flatMap Sv.ids) []) id = true) := by
        have hh := callEnd_ok hT b0 ho hcl hf hvs rfl b1 b2 b3 h2
        unfold callEnd at h1 hh
        simp only [] at h1 hh
        split at h1
        · rename_i hcond
          obtain ⟨E, hE1, hE2⟩ := hh (fun E => E = _) (by rw [hcond]; rfl)
          subst hE1
          refine ⟨_, h1, hE2, fun id b hm => ?_⟩
          rcases List.mem_append.1 hm with hm | hm
          · obtain ⟨_, _, hx⟩ := List.mem_map.1 hm; cases hx
          · obtain ⟨i, hi, hx⟩ := List.mem_map.1 hm
            cases hx
            refine ⟨rfl, fun ⟨x, hx⟩ => ?_⟩
            rcases List.mem_append.1 hi with hi | hi
            · cases hwr : memb wf g with
              | true => rw [hwr] at hi; exact memb_iff.2 (mem_rws.1 hi).1
              | false => rw [hwr] at hi; cases hi
            · exfalso
              have := List.all_eq_true.1 (Bool.and_eq_true_iff.1 hcond).1 _ hi
              rw [hx] at this; cases this
        · exact h1.elim
      obtain ⟨E, hE1, hE2, hE3⟩ := hE
      refine ⟨_, hE1, hE2.slim fun id b hm hS j hj => ?_⟩
      obtain ⟨rfl, hin⟩ := hE3 id b hm
      have hmem := hin (sameS_kn hS)
      have hkn : kn (look (sub σ (reach σ.bk 100000 ((vs ++ caps.map pvSv).flatMap Sv.ids) []) (!memb wf g))) id := by
        obtain ⟨x, hx⟩ := sameS_kn hS
        unfold kn
        rw [sub_k, if_pos hmem, hx]; rfl
      have := h2.keep id j hkn hj
      rw [sub_c, if_pos hmem] at this
      rw [← this, look_c_gOf]
    · exact fun Φ hΦ => hΦ.elim
  · exact fun Φ hΦ => hΦ.elim
def opF (tb : Tb) (wf : List FuncId) (call : CallF) (σ : St) (kn : Kn) (o : Oper) : Tree OpE := match o.op with
  | .call { callee := .value f, args := args, argTypes := _ } => callS tb wf call σ f args.toList
  | _ => opS tb σ kn o
theorem opF_ok {wf : List FuncId} {call : CallF} (hT : TbOk P tb) (hc : CallFOk P call) {kn : Kn} (hk : KnOk σ kn) : TreeOkW P σ o (opF tb wf call σ kn o) := by
  unfold opF
  split
  · rename_i f args ts ho
    exact callS_ok hT hc ho rfl
  · exact (opS_ok hT hk).toW

/-! one operation of a region -/
structure One where
  σ : St
  kn : Kn
  locs : List Loc
  ws : List Wr
def tmpOf : Operand → List Nat
  | .tmp t => [t]
  | _ => []
def tmpsOf (o : Oper) : List Loc := (o.op.operands.toList.flatMap tmpOf).map Loc.t
def noTm : Wr → Bool
  | .tm _ _ => false
  | .ft _ => false
  | _ => true
def dstWr (N : Nat) : Option Tmp → Option Sv → Option (List Wr)
  | none, _ => some []
  | some d, v => match Nat.blt d N with
    | true => some [.tm d (v.getD (.tup []))]
    | false => none
def dstKn (kn : Kn) : Option Tmp → Kn
  | none => kn
  | some d => adel kn d
def finish (N : Nat) (σ : St) (kn : Kn) (dst : Option Tmp) (pre : List Loc) (E : OpE) : Tree One := fE E fun E => match dstWr N dst E.val, E.ws.all noTm with
  | some dw, true => fL fId (E.ws ++ dw) fun ws => fL fLoc (pre ++ E.rl) fun ls => fapps ws σ fun o => match o with
    | some σ' => .leaf ⟨σ', dstKn kn dst, ls, ws⟩
    | none => .fail
  | _, _ => .fail
theorem finish_eq {N : Nat} {σ : St} {kn : Kn} {dst : Option Tmp} {pre : List Loc} {E : OpE} : finish N σ kn dst pre E = match dstWr N dst E.val, E.ws.all noTm with
    | some dw, true => match σ.apps (E.ws ++ dw) with
      | some σ' => .leaf ⟨σ', dstKn kn dst, pre ++ E.rl, E.ws ++ dw⟩
      | none => .fail
    | _, _ => .fail := by
  simp only [finish, fE_eq, fL_fId, fL_fLoc, fapps_eq]
/-- The part of operation i of a region. -/
def PartOk (P : Program) (ops : Array Oper) (N : Nat) (σ : St) (i : Nat) (x : One) : Prop :=
  ∀ (C : Ctx) (Q : Exit → Act → World → Prop) (s : Sto) (a : Act) (w : World) (K : Act → World → Prop), (∃ e, Rel C N e s a w) → (∀ l ∈ x.locs, s l = look σ l) → (∀ a' w', (∃ e, Rel C N e (upds s x.ws) a' w') → K a' w') → wpOp P ops Q i K a w
def skipE : OpE := ⟨none, [], []⟩
def evOp (tb : Tb) (wf : List FuncId) (call : CallF) (N : Nat) (ops : Array Oper) (σ : St) (kn : Kn) (o : Oper) : Tree One :=
  let yes := fun (pre : List Loc) (kn : Kn) => (opF tb wf call σ kn o).bind (finish N σ kn o.dst (pre ++ tmpsOf o))
  match o.guard with
  | none => yes [] kn
  | some (j, want) => match (ops[j]?).bind (·.dst) with
    | none => .fail
    | some t => match alook σ.tm t with
      | some (.one (.b v l)) =>
        let no := fun (kn : Kn) => finish N σ kn o.dst [.t t] skipE
        match alook kn t with
        | some d => match d == want with
          | true => yes [.t t] kn
          | false => no kn
        | none => match l with
          | true => match v == want with
            | true => yes [.t t] kn
            | false => no kn
          | false => match want with
            | true => .br v (yes [.t t] ((t, true) :: kn)) (no ((t, false) :: kn))
            | false => .br v (no ((t, true) :: kn)) (yes [.t t] ((t, false) :: kn))
      | some (.tup []) => finish N σ kn o.dst [.t t] skipE
      | _ => .fail
theorem Sub.upds {s : Sto} {ws : List Wr} : Sub s (upds s ws) := by
  induction ws generalizing s with
  | nil => exact Sub.refl _
  | cons x ws ih =>
    refine Sub.trans (b := x.upd s) ?_ ih
    cases x with
    | tm n v => exact Sub.tm
    | ft n => exact ⟨fun _ h => h, fun _ h => h⟩
    | cell id off v => exact Sub.cell
    | new id b => exact Sub.new
    | nm c => exact Sub.nm
theorem upds_t {s : Sto} {ws : List Wr} (h : ws.all noTm = true) (t : Nat) : upds s ws (.t t) = s (.t t) := by
  induction ws generalizing s with
  | nil => rfl
  | cons x ws ih =>
    simp only [List.all_cons, Bool.and_eq_true] at h
    show upds (x.upd s) ws (.t t) = _
    rw [ih h.2]
    cases x with
    | tm n v => cases h.1
    | ft n => cases h.1
    | _ => rfl
theorem apps_tm {ws : List Wr} (h : ws.all noTm = true) : ∀ {σ σ' : St}, σ.apps ws = some σ' → σ'.tm = σ.tm := by
  induction ws with
  | nil => intro σ σ' h2; obtain rfl := Option.some.inj h2; rfl
  | cons x ws ih =>
    intro σ σ' h2
    simp only [List.all_cons, Bool.and_eq_true] at h
    simp only [St.apps] at h2
    split at h2
    · rw [ih h.2 h2]
      cases x with
      | tm n v => cases h.1
      | ft n => cases h.1
      | _ => rfl
    · cases h2
theorem apps_append {ws ws' : List Wr} : ∀ {σ : St}, σ.apps (ws ++ ws') = (σ.apps ws).bind fun σ' => σ'.apps ws' := by
  induction ws with
  | nil => intro σ; rfl
  | cons x ws ih =>
    intro σ
    simp only [List.cons_append, St.apps]
    split
    · exact ih
    · rfl
theorem KnOk.del {kn : Kn} {σ' : St} {t : Nat} {v : Sv} {tm : List (Nat × Sv)} (h : KnOk σ kn) (h1 : tm = σ.tm) (h2 : σ'.tm = (t, v) :: tm) : KnOk σ' (adel kn t) := by
  intro u d hu
  rw [alook_adel] at hu
  split at hu
  · cases hu
  · rename_i hne
    obtain ⟨x, l, hx, rfl⟩ := h u d hu
    refine ⟨x, l, ?_, rfl⟩
    rw [h2, h1]
    simp only [alook]
    rw [beq_ff.2 (Ne.symm hne)]
    exact hx
theorem dst_kn {kn : Kn} {σ' : St} {N : Nat} {dst : Option Tmp} {val : Option Sv} {ws dw : List Wr} (h : KnOk σ kn) (hn : ws.all noTm = true) (hd : dstWr N dst val = some dw) (ha : σ.apps (ws ++ dw) = some σ') : KnOk σ' (dstKn kn dst) := by
  rw [apps_append] at ha
  obtain ⟨σ1, h1, h2⟩ := Option.bind_eq_some_iff.1 ha
  have ht := apps_tm hn h1
  cases dst with
  | none =>
    obtain rfl := Option.some.inj (show some [] = some dw from hd)
    obtain rfl := Option.some.inj (show some σ1 = some σ' from h2)
    intro u d hu
    obtain ⟨x, l, hx, rfl⟩ := h u d hu
    exact ⟨x, l, by rw [ht]; exact hx, rfl⟩
  | some t =>
    simp only [dstWr] at hd
    split at hd
    · obtain rfl := Option.some.inj hd
      obtain rfl : σ1.app (.tm t (val.getD (.tup []))) = σ' := by simpa [St.apps, okW] using h2
      exact h.del ht rfl
    · cases hd
/-- What stands in the frame behind an operation. -/
theorem dst_rel {C : Ctx} {N : Nat} {e : Env} {s : Sto} {a : Act} {w : World} {dst : Option Tmp} {val : Option Sv} {dw : List Wr} {x : Value} (h : Rel C N e s a w) (hd : dstWr N dst val = some dw) (hx : ∀ v, val = some v → x = v.den e ∧ v.sc s) (hu : val = none → x = undef) : Rel C N e (upds s dw) (a.put dst x) w := by
  cases dst with
  | none =>
    obtain rfl := Option.some.inj (show some [] = some dw from hd)
    exact h
  | some t =>
    simp only [dstWr] at hd
    split at hd
    · rename_i hlt
      obtain rfl := Option.some.inj hd
      have hlt' := blt_iff.1 hlt
      cases val with
      | some v =>
        obtain ⟨rfl, hs⟩ := hx v rfl
        exact h.put hlt' hs
      | none =>
        obtain rfl := hu rfl
        exact h.put (v := .tup []) hlt' (fun p hp => by cases hp)
    · cases hd
/-- What a leaf of evOp is. -/
structure OneOk (P : Program) (ops : Array Oper) (N : Nat) (σ : St) (i : Nat) (x : One) : Prop where
  app : σ.apps x.ws = some x.σ
  kn : KnOk x.σ x.kn
  part : PartOk P ops N σ i x
theorem finish_yes {kn : Kn} {N i : Nat} {ops : Array Oper} {pre : List Loc} {E : OpE} (hi : ops[i]? = some o) (hk : KnOk σ kn) (hE : OpOkW P σ o E) (htm : ∀ l ∈ tmpsOf o, l ∈ pre)
    (hw : ∀ (C : Ctx) (e : Env) (s : Sto) (a : Act) (w : World), Rel C N e s a w → (∀ l ∈ pre, s l = look σ l) → Region.wanted o (yielded ops a.tmps) = true) {Φ : One → Prop} (h : (finish N σ kn o.dst pre E).All Φ) : ∃ x, Φ x ∧ OneOk P ops N σ i x := by
  rw [finish_eq] at h
  split at h
  · rename_i dw hd hn
    split at h
    · rename_i σ' ha
      refine ⟨_, h, ha, dst_kn hk hn hd ha, ?_⟩
      rintro C Q s a w K ⟨e, hR⟩ hl hK
      unfold wpOp
      rw [hi]
      simp only []
      have hlp : ∀ l ∈ pre, s l = look σ l := fun l hm => hl l (List.mem_append_left _ hm)
      rw [if_pos (hw C e s a w hR hlp)]
      refine Or.inl (hE C e s a w K Q hR.hp (fun x hx => sees_of hR fun t ht => ?_) (fun l hm => hl l (List.mem_append_right _ hm)) ?_)
      · subst ht
        refine hlp _ (htm _ ?_)
        unfold tmpsOf
        exact List.mem_map.2 ⟨t, List.mem_flatMap.2 ⟨.tmp t, by simpa using hx, by simp [tmpOf]⟩, rfl⟩
      · intro e' w' x hA hp' hx hu
        refine hK _ _ ⟨e', ?_⟩
        rw [upds_append]
        exact dst_rel (hR.agree (fun t => upds_t hn t) Sub.upds hA hp') hd hx hu
    · exact h.elim
  · exact h.elim
theorem finish_no {kn : Kn} {N i : Nat} {ops : Array Oper} {pre : List Loc} (hi : ops[i]? = some o) (hk : KnOk σ kn)
    (hw : ∀ (C : Ctx) (e : Env) (s : Sto) (a : Act) (w : World), Rel C N e s a w → (∀ l ∈ pre, s l = look σ l) → Region.wanted o (yielded ops a.tmps) = false) {Φ : One → Prop} (h : (finish N σ kn o.dst pre skipE).All Φ) : ∃ x, Φ x ∧ OneOk P ops N σ i x := by
  rw [finish_eq] at h
  split at h
  · rename_i dw hd hn
    split at h
    · rename_i σ' ha
      refine ⟨_, h, ha, dst_kn hk hn hd ha, ?_⟩
      rintro C Q s a w K ⟨e, hR⟩ hl hK
      unfold wpOp
      rw [hi]
      simp only []
      have hlp : ∀ l ∈ pre, s l = look σ l := fun l hm => hl l (List.mem_append_left _ hm)
      rw [if_neg (by rw [hw C e s a w hR hlp]; decide)]
      refine hK _ _ ⟨e, ?_⟩
      exact dst_rel hR hd (fun v hv => by cases hv) (fun _ => rfl)
    · exact h.elim
  · exact h.elim
theorem wanted_of {C : Ctx} {N j : Nat} {e : Env} {s : Sto} {a : Act} {w : World} {ops : Array Oper} {want v l : Bool} {t : Nat} (hg : o.guard = some (j, want)) (hj : (ops[j]?).bind (·.dst) = some t) (hv : alook σ.tm t = some (.one (.b v l))) (hR : Rel C N e s a w) (hs : s (.t t) = look σ (.t t)) : Region.wanted o (yielded ops a.tmps) = (v == want) := by
  have h1 : s (.t t) = some (.sv (.one (.b v l))) := by rw [hs]; simp only [look, hv]; rfl
  obtain ⟨h2, h3, _⟩ := hR.tm t _ h1
  have h4 : a.tmps[t]? = some (.bool v) := by
    have hlt : t < a.tmps.size := by rw [hR.sz]; exact h2
    rw [Array.getElem?_eq_getElem hlt]
    rw [Array.getD_eq_getD_getElem?, Array.getElem?_eq_getElem hlt] at h3
    exact congrArg some h3
  unfold Region.wanted yielded
  rw [hg]
  simp only [hj, Option.bind_some, h4]
  cases v <;> cases want <;> rfl
/-- A test that was itself passed over: what hangs on it is passed over too. -/
theorem wanted_un {C : Ctx} {N j : Nat} {e : Env} {s : Sto} {a : Act} {w : World} {ops : Array Oper} {want : Bool} {t : Nat} (hg : o.guard = some (j, want)) (hj : (ops[j]?).bind (·.dst) = some t) (hv : alook σ.tm t = some (.tup [])) (hR : Rel C N e s a w) (hs : s (.t t) = look σ (.t t)) : Region.wanted o (yielded ops a.tmps) = false := by
  have h1 : s (.t t) = some (.sv (.tup [])) := by rw [hs]; simp only [look, hv]; rfl
  obtain ⟨h2, h3, _⟩ := hR.tm t _ h1
  have h4 : a.tmps[t]? = some (.tuple #[]) := by
    have hlt : t < a.tmps.size := by rw [hR.sz]; exact h2
    rw [Array.getElem?_eq_getElem hlt]
    rw [Array.getD_eq_getD_getElem?, Array.getElem?_eq_getElem hlt] at h3
    exact congrArg some h3
  unfold Region.wanted yielded
  rw [hg]
  simp only [hj, Option.bind_some, h4]
  cases want <;> rfl
theorem evOp_ok {wf : List FuncId} {call : CallF} (hT : TbOk P tb) (hc : CallFOk P call) {N i : Nat} {ops : Array Oper} {kn : Kn} (hi : ops[i]? = some o) (hk : KnOk σ kn) {Φ : One → Prop} (h : (evOp tb wf call N ops σ kn o).All Φ) : ∃ x, Φ x ∧ OneOk P ops N σ i x := by
  have yes : ∀ {pre : List Loc} {kn : Kn}, KnOk σ kn → (∀ (C : Ctx) (e : Env) (s : Sto) (a : Act) (w : World), Rel C N e s a w → (∀ l ∈ pre, s l = look σ l) → Region.wanted o (yielded ops a.tmps) = true) →
      ((opF tb wf call σ kn o).bind (finish N σ kn o.dst (pre ++ tmpsOf o))).All Φ → ∃ x, Φ x ∧ OneOk P ops N σ i x := by
    intro pre kn hk hw h
    rw [Tree.All_bind] at h
    obtain ⟨E, h1, h2⟩ := opF_ok hT hc hk _ h
    exact finish_yes hi hk h2 (fun l hl => List.mem_append_right _ hl) (fun C e s a w hR hl => hw C e s a w hR fun l hm => hl l (List.mem_append_left _ hm)) h1
  unfold evOp at h
  simp only [] at h
  split at h
  · rename_i hg
    exact yes (pre := []) hk (fun C e s a w _ _ => by simp [Region.wanted, hg]) h
  · rename_i j want hg
    split at h
    · exact h.elim
    · rename_i t hj
      split at h
      · rename_i v l hv
        have hw : ∀ (C : Ctx) (e : Env) (s : Sto) (a : Act) (w : World), Rel C N e s a w → (∀ l ∈ [Loc.t t], s l = look σ l) → Region.wanted o (yielded ops a.tmps) = (v == want) := fun C e s a w hR hl => wanted_of hg hj hv hR (hl _ (by simp))
        have yes' : ∀ {kn : Kn}, KnOk σ kn → (v == want) = true → ((opF tb wf call σ kn o).bind (finish N σ kn o.dst ([Loc.t t] ++ tmpsOf o))).All Φ → ∃ x, Φ x ∧ OneOk P ops N σ i x := fun hk hvw h => yes hk (fun C e s a w hR hl => (hw C e s a w hR hl).trans hvw) h
        have no' : ∀ {kn : Kn}, KnOk σ kn → (v == want) = false → (finish N σ kn o.dst [Loc.t t] skipE).All Φ → ∃ x, Φ x ∧ OneOk P ops N σ i x := fun hk hvw h => finish_no hi hk (fun C e s a w hR hl => (hw C e s a w hR hl).trans hvw) h
        have hk2 : ∀ d, v = d → KnOk σ ((t, d) :: kn) := by
          intro d hvd u d' hu
          simp only [alook] at hu
          cases hb : Nat.beq t u with
          | true =>
            rw [hb] at hu
            obtain rfl := beq_iff'.1 hb
            obtain rfl := Option.some.inj hu
            exact ⟨v, l, hv, hvd⟩
          | false => rw [hb] at hu; exact hk u d' hu
        split at h
        · rename_i d hd
          obtain ⟨v', l', hv', rfl⟩ := hk t d hd
          obtain ⟨rfl, rfl⟩ : v' = v ∧ l' = l := by rw [hv] at hv'; simpa [eq_comm] using hv'
          split at h
          · rename_i hb; exact yes' hk hb h
          · rename_i hb; exact no' hk hb h
        · split at h
          · split at h
            · rename_i hb; exact yes' hk hb h
            · rename_i hb; exact no' hk hb h
          · split at h
            · cases hvv : v with
              | true => rw [hvv] at hk2 yes'; exact yes' (hk2 true rfl) rfl (h.1 hvv)
              | false => rw [hvv] at hk2 no'; exact no' (hk2 false rfl) rfl (h.2 hvv)
            · cases hvv : v with
              | true => rw [hvv] at hk2 no'; exact no' (hk2 true rfl) rfl (h.1 hvv)
              | false => rw [hvv] at hk2 yes'; exact yes' (hk2 false rfl) rfl (h.2 hvv)
      · rename_i hv
        exact finish_no hi hk (fun C e s a w hR hl => wanted_un hg hj hv hR (hl _ (by simp))) h
      · exact h.elim
end
end Sx
end Go.Proofs.Ytladkknbkgomfaa

/-
  A region; ways that meet again.
-/
set_option linter.unusedSimpArgs false
set_option linter.unusedVariables false
namespace Go.Proofs.Ytladkknbkgomfaa
namespace Sx
open Go.RowKit

section
variable {P : Program} {tb : Tb}

/-- The way that is gone. -/
def Tree.At {α : Type} : Tree α → α → Prop
  | .leaf x, y => x = y
  | .br b t f, y => (b = true ∧ t.At y) ∨ (b = false ∧ f.At y)
  | .must b t, y => b = true ∧ t.At y
  | .fail, _ => False
theorem Tree.At.all {α : Type} {p : α → Prop} {x : α} : ∀ {t : Tree α}, t.At x → t.All p → p x
  | .leaf y, h, k => by obtain rfl : y = x := h; exact k
  | .br b t f, h, k => by
    rcases h with ⟨hb, h⟩ | ⟨hb, h⟩
    · exact h.all (k.1 hb)
    · exact h.all (k.2 hb)
  | .must b t, h, k => h.2.all k.2
  | .fail, h, _ => h.elim
theorem Tree.All.at_ {α : Type} {p : α → Prop} : ∀ {t : Tree α}, t.All p → ∃ x, t.At x ∧ p x
  | .leaf y, k => ⟨y, rfl, k⟩
  | .br b t f, k => by
    cases hb : b with
    | true => obtain ⟨x, h1, h2⟩ := (k.1 hb).at_; exact ⟨x, Or.inl ⟨rfl, h1⟩, h2⟩
    | false => obtain ⟨x, h1, h2⟩ := (k.2 hb).at_; exact ⟨x, Or.inr ⟨rfl, h1⟩, h2⟩
  | .must b t, k => by obtain ⟨x, h1, h2⟩ := k.2.at_; exact ⟨x, ⟨k.1, h1⟩, h2⟩
  | .fail, k => k.elim
theorem Tree.At.eqAll {α : Type} {x : α} : ∀ {t : Tree α}, t.At x → t.All (· = x)
  | .leaf y, h => h
  | .br b t f, h => by
    rcases h with ⟨hb, h⟩ | ⟨hb, h⟩
    · exact ⟨fun _ => h.eqAll, fun hf => absurd (hb.symm.trans hf) (by decide)⟩
    · exact ⟨fun ht => absurd (hb.symm.trans ht) (by decide), fun _ => h.eqAll⟩
  | .must b t, h => ⟨h.1, h.2.eqAll⟩
  | .fail, h => h.elim
theorem Tree.At_bind {α β : Type} {g : α → Tree β} {y : β} : ∀ {t : Tree α}, (t.bind g).At y ↔ ∃ x, t.At x ∧ (g x).At y
  | .leaf x => ⟨fun h => ⟨x, rfl, h⟩, fun ⟨_, h1, h2⟩ => by obtain rfl := h1; exact h2⟩
  | .br b t f => by
    simp only [Tree.bind, Tree.At, Tree.At_bind (t := t), Tree.At_bind (t := f)]
    constructor
    · rintro (⟨hb, x, h1, h2⟩ | ⟨hb, x, h1, h2⟩)
      · exact ⟨x, Or.inl ⟨hb, h1⟩, h2⟩
      · exact ⟨x, Or.inr ⟨hb, h1⟩, h2⟩
    · rintro ⟨x, ⟨hb, h1⟩ | ⟨hb, h1⟩, h2⟩
      · exact Or.inl ⟨hb, x, h1, h2⟩
      · exact Or.inr ⟨hb, x, h1, h2⟩
  | .must b t => by
    simp only [Tree.bind, Tree.At, Tree.At_bind (t := t)]
    constructor
    · rintro ⟨hb, x, h1, h2⟩; exact ⟨x, ⟨hb, h1⟩, h2⟩
    · rintro ⟨x, ⟨hb, h1⟩, h2⟩; exact ⟨hb, x, h1, h2⟩
  | .fail => ⟨fun h => h.elim, fun ⟨_, h, _⟩ => h.elim⟩

/-! places that meet -/
inductive Dm where
  | t (n : Nat)
  | c (id off : Nat)
  | b (id : Nat)
  | n (c : Nat)
def Wr.dom : Wr → Dm
  | .tm n _ => .t n
  | .ft n => .t n
  | .cell id off _ => .c id off
  | .new id _ => .b id
  | .nm c => .n c
def lOv : Dm → Loc → Bool
  | .t n, .t m => Nat.beq n m
  | .c id off, .c i o => Nat.beq id i && Nat.beq off o
  | .b id, .k i => Nat.beq id i
  | .b id, .c i _ => Nat.beq id i
  | .n c, .n d => Nat.beq c d
  | _, _ => false
def dOv : Dm → Dm → Bool
  | .t n, .t m => Nat.beq n m
  | .c id off, .c i o => Nat.beq id i && Nat.beq off o
  | .b id, .b i => Nat.beq id i
  | .b id, .c i _ => Nat.beq id i
  | .c i _, .b id => Nat.beq id i
  | .n c, .n d => Nat.beq c d
  | _, _ => false
theorem fn_dom {x : Wr} {l : Loc} (h : (x.fn l).isSome = true) : lOv x.dom l = true := by
  cases x <;> cases l <;> simp only [Wr.fn] at h <;> first
    | cases h; done
    | (split at h
       · rename_i e
         first
           | (subst e; exact Nat.beq_refl _)
           | (obtain ⟨rfl, rfl⟩ := e; simp [lOv, Wr.dom])
       · cases h)
theorem ov_of {a b : Dm} {l : Loc} (h1 : lOv a l = true) (h2 : lOv b l = true) : dOv a b = true := by
  cases l <;> cases a <;> simp only [lOv] at h1 <;> (try (cases h1; done)) <;> cases b <;> simp only [lOv] at h2 <;> (try (cases h2; done)) <;>
    simp only [Bool.and_eq_true, beq_iff'] at h1 h2 <;> simp only [dOv, Bool.and_eq_true, beq_iff'] <;> omega
theorem fns_some {l : Loc} : ∀ {ws : List Wr}, (fns ws l).isSome = true → ∃ x ∈ ws, (x.fn l).isSome = true
  | [], h => by cases h
  | x :: ws, h => by
    simp only [fns] at h
    cases hf : fns ws l with
    | some y => obtain ⟨z, h1, h2⟩ := fns_some (ws := ws) (l := l) (by rw [hf]; rfl); exact ⟨z, List.mem_cons_of_mem _ h1, h2⟩
    | none => rw [hf] at h; exact ⟨x, List.mem_cons_self, h⟩
/-- What one operation looks at and writes. -/
structure Tr where
  σ : St
  locs : List Loc
  ws : List Wr
def ovWW (a b : List Wr) : Bool := a.any fun x => b.any fun y => dOv x.dom y.dom
def ovWR (a : List Wr) (r : List Loc) : Bool := a.any fun x => r.any fun l => lOv x.dom l
def noConf (x y : Tr) : Bool := !(ovWW x.ws y.ws || (ovWR x.ws y.locs || ovWR y.ws x.locs))
def confJ (m : Nat) (y : Tr) : Nat → List Tr → Bool
  | _, [] => true
  | i, x :: l => (m.testBit i || noConf x y) && confJ m y (i + 1) l
def confB (l : List Tr) (ms : List Nat) : Bool := (List.range l.length).all fun j => match l[j]? with
  | some y => confJ (ms.getD j 0) y 0 (l.take j)
  | none => true
theorem confJ_at {m : Nat} {y : Tr} : ∀ {l : List Tr} {k : Nat}, confJ m y k l = true → ∀ i x, l[i]? = some x → (m.testBit (k + i) || noConf x y) = true
  | [], k, h, i, x, hx => by simp at hx
  | z :: l, k, h, i, x, hx => by
    simp only [confJ, Bool.and_eq_true] at h
    cases i with
    | zero => obtain rfl : z = x := by simpa using hx
              exact h.1
    | succ i => have := confJ_at h.2 i x (by simpa using hx); rwa [show k + 1 + i = k + (i + 1) by omega] at this
def partOf (x : Tr) : Part Loc LV := ⟨x.locs.map fun l => (l, look x.σ l), fns x.ws⟩
def partAt (l : List Tr) (i : Nat) : Part Loc LV := match l[i]? with
  | some x => partOf x
  | none => ⟨[], fun _ => none⟩
theorem confB_ok {l : List Tr} {ms : List Nat} (h : confB l ms = true) : ∀ i j, i < j → j < l.length → ∀ x, ((((partAt l i).wr x).isSome = true ∧ (((partAt l j).wr x).isSome = true ∨ x ∈ (partAt l j).rd.map (·.1))) ∨ (x ∈ (partAt l i).rd.map (·.1) ∧ ((partAt l j).wr x).isSome = true)) → (ms.getD j 0).testBit i = true := by
  intro i j hij hj x hx
  have hi : i < l.length := by omega
  have hjl : l[j]? = some l[j] := List.getElem?_eq_getElem hj
  have hil : l[i]? = some l[i] := List.getElem?_eq_getElem hi
  have h1 := List.all_eq_true.1 h j (List.mem_range.2 hj)
  rw [hjl] at h1
  simp only [] at h1
  have h2 := confJ_at h1 i l[i] (by rw [List.getElem?_take_of_lt hij]; exact hil)
  rw [Nat.zero_add, Bool.or_eq_true] at h2
  rcases h2 with h2 | h2
  · exact h2
  · exfalso
    have ei : partAt l i = partOf l[i] := by unfold partAt; rw [hil]
    have ej : partAt l j = partOf l[j] := by unfold partAt; rw [hjl]
    rw [ei, ej] at hx
    unfold noConf at h2
    have rdl : ∀ (y : Tr), x ∈ (partOf y).rd.map (·.1) → x ∈ y.locs := by
      intro y hy
      simp only [partOf, List.map_map] at hy
      obtain ⟨z, hz, rfl⟩ := List.mem_map.1 hy
      exact hz
    have ww : ∀ (y z : Tr), (fns y.ws x).isSome = true → (fns z.ws x).isSome = true → ovWW y.ws z.ws = true := by
      intro y z hy hz
      obtain ⟨p, p1, p2⟩ := fns_some hy
      obtain ⟨q, q1, q2⟩ := fns_some hz
      exact List.any_eq_true.2 ⟨p, p1, List.any_eq_true.2 ⟨q, q1, ov_of (fn_dom p2) (fn_dom q2)⟩⟩
    have wr : ∀ (y z : Tr), (fns y.ws x).isSome = true → x ∈ z.locs → ovWR y.ws z.locs = true := by
      intro y z hy hz
      obtain ⟨p, p1, p2⟩ := fns_some hy
      exact List.any_eq_true.2 ⟨p, p1, List.any_eq_true.2 ⟨x, hz, fn_dom p2⟩⟩
    rw [Bool.not_eq_true', Bool.or_eq_false_iff, Bool.or_eq_false_iff] at h2
    obtain ⟨n1, n2, n3⟩ := h2
    rcases hx with ⟨a1, a2 | a2⟩ | ⟨a1, a2⟩
    · rw [ww _ _ a1 a2] at n1; cases n1
    · rw [wr _ _ a1 (rdl _ a2)] at n2; cases n2
    · rw [wr _ _ a2 (rdl _ a1)] at n3; cases n3

def evOps (tb : Tb) (wf : List FuncId) (call : CallF) (N : Nat) (ops : Array Oper) : List Oper → St → Kn → List Tr → Tree (St × List Tr)
  | [], σ, _, acc => .leaf (σ, acc.reverse)
  | o :: rest, σ, kn, acc => (evOp tb wf call N ops σ kn o).bind fun x => evOps tb wf call N ops rest x.σ x.kn (⟨σ, x.locs, x.ws⟩ :: acc)
/-- A run in the order of the text. -/
def Run (P : Program) (ops : Array Oper) (N : Nat) : Nat → St → List Tr → St → Prop
  | _, σ, [], σ' => σ = σ'
  | i, σ, x :: l, σ' => x.σ = σ ∧ PartOk P ops N σ i ⟨σ, [], x.locs, x.ws⟩ ∧ ∃ σ1, σ.apps x.ws = some σ1 ∧ Run P ops N (i + 1) σ1 l σ'
theorem evOps_ok {wf : List FuncId} {call : CallF} (hT : TbOk P tb) (hc : CallFOk P call) {N : Nat} {ops : Array Oper} : ∀ (l : List Oper) (i : Nat) (σ : St) (kn : Kn) (acc : List Tr), (∀ j o, l[j]? = some o → ops[i + j]? = some o) → KnOk σ kn →
    ∀ y, (evOps tb wf call N ops l σ kn acc).At y → ∃ r, y.2 = acc.reverse ++ r ∧ r.length = l.length ∧ Run P ops N i σ r y.1
  | [], i, σ, kn, acc, _, _, y, h => by
    obtain rfl : _ = y := h
    exact ⟨[], by simp, rfl, rfl⟩
  | o :: rest, i, σ, kn, acc, hl, hk, y, h => by
    obtain ⟨x, h1, h2⟩ := Tree.At_bind.1 h
    obtain ⟨x', rfl, hx⟩ := evOp_ok (P := P) hT hc (i := i) (hl 0 o rfl) hk h1.eqAll
    obtain ⟨r, r1, r2, r3⟩ := evOps_ok hT hc rest (i + 1) x'.σ x'.kn _ (fun j o' hj => by rw [show i + 1 + j = i + (j + 1) by omega]; exact hl (j + 1) o' (by simpa using hj)) hx.kn y h2
    refine ⟨⟨σ, x'.locs, x'.ws⟩ :: r, by rw [r1]; simp, by simp [r2], rfl, hx.part, x'.σ, hx.app, r3⟩
def apAll (σ : St) : List Tr → Option St
  | [] => some σ
  | x :: l => match σ.apps x.ws with
    | some σ1 => apAll σ1 l
    | none => none
/-- Along a run. -/
theorem Run.at_ {ops : Array Oper} {N : Nat} : ∀ {l : List Tr} {i : Nat} {σ σ' : St}, Run P ops N i σ l σ' → ∀ (f : Nat → Part Loc LV) (s0 : Loc → Option LV), (∀ j, j < l.length → f (i + j) = partAt l j) → stAt f s0 (fun _ => true) i = look σ →
    (∀ j x, l[j]? = some x → stAt f s0 (fun _ => true) (i + j) = look x.σ ∧ PartOk P ops N x.σ (i + j) ⟨x.σ, [], x.locs, x.ws⟩) ∧ stAt f s0 (fun _ => true) (i + l.length) = look σ'
  | [], i, σ, σ', h, f, s0, hf, hs => by
    obtain rfl : σ = σ' := h
    exact ⟨fun j x hj => by simp at hj, by simpa using hs⟩
  | x :: l, i, σ, σ', h, f, s0, hf, hs => by
    obtain ⟨h1, h2, σ1, h3, h4⟩ := h
    have hn : stAt f s0 (fun _ => true) (i + 1) = look σ1 := by
      show (if true = true then _ else _) = _
      rw [if_pos rfl, hs, look_apps h3, upds_fns]
      have := hf 0 (by simp)
      rw [Nat.add_zero] at this
      rw [this]
      rfl
    obtain ⟨k1, k2⟩ := Run.at_ h4 f s0 (fun j hj => by
      have := hf (j + 1) (by simp; omega)
      rw [show i + 1 + j = i + (j + 1) by omega, this]
      rfl) hn
    refine ⟨fun j y hj => ?_, by rw [show i + (x :: l).length = i + 1 + l.length by simp; omega]; exact k2⟩
    cases j with
    | zero =>
      obtain rfl : x = y := by simpa using hj
      subst h1
      exact ⟨hs, h2⟩
    | succ j =>
      have := k1 j y (by simpa using hj)
      rwa [show i + 1 + j = i + (j + 1) by omega] at this
def evReg (tb : Tb) (wf : List FuncId) (call : CallF) (N : Nat) (ops : Array Oper) (draw : Bool) (σ : St) : Tree St :=
  (evOps tb wf call N ops ops.toList σ [] []).bind fun p => match draw with
    | false => .leaf p.1
    | true => match early ops && confB p.2 (masks ops ops.size) with
      | true => .leaf p.1
      | false => .fail
/-- What has been written since. -/
def Ext (σ σ' : St) : Prop := ∃ ws, σ.apps ws = some σ' ∧ σ'.lg = ws.reverse ++ σ.lg
theorem Ext.refl (σ : St) : Ext σ σ := ⟨[], rfl, rfl⟩
theorem Ext.trans {a b c : St} (h : Ext a b) (k : Ext b c) : Ext a c := by
  obtain ⟨u, h1, h2⟩ := h
  obtain ⟨v, k1, k2⟩ := k
  exact ⟨u ++ v, by rw [apps_append, h1]; exact k1, by rw [k2, h2]; simp⟩
theorem Ext.apps {ws : List Wr} : ∀ {σ σ' : St}, σ.apps ws = some σ' → Ext σ σ' := by
  induction ws with
  | nil => intro σ σ' h; obtain rfl := Option.some.inj h; exact Ext.refl _
  | cons x ws ih =>
    intro σ σ' h
    have h0 := h
    simp only [St.apps] at h
    split at h
    · rename_i hw
      refine Ext.trans (b := σ.app x) ⟨[x], by simp [St.apps, hw], ?_⟩ (ih h)
      cases x <;> rfl
    · cases h
theorem Run.ext {ops : Array Oper} {N : Nat} : ∀ {l : List Tr} {i : Nat} {σ σ' : St}, Run P ops N i σ l σ' → Ext σ σ'
  | [], _, _, _, h => by obtain rfl := h; exact Ext.refl _
  | x :: l, i, σ, σ', h => by
    obtain ⟨_, _, σ1, h3, h4⟩ := h
    exact (Ext.apps h3).trans (Run.ext h4)
theorem evReg_ok {wf : List FuncId} {call : CallF} (hT : TbOk P tb) (hm : P.follows .mixedOrders = true) (hc : CallFOk P call) {N id : Nat} {ops : Array Oper} {draw : Bool} {σ σ' : St} (h : (evReg tb wf call N ops draw σ).At σ') :
    Ext σ σ' ∧ ∀ (C : Ctx) (e : Env) (a : Act) (w : World) (Q : Exit → Act → World → Prop), Rel C N e (look σ) a w → (∀ e' a' w', Rel C N e' (look σ') a' w' → Q .normal a' w') → (Code.region id ops draw).wp P Q a w := by
  obtain ⟨y, h1, h2⟩ := Tree.At_bind.1 h
  obtain ⟨r, r1, r2, r3⟩ := evOps_ok (P := P) hT hc ops.toList 0 σ [] [] (fun j o hj => by rw [Nat.zero_add, ← Array.getElem?_toList]; exact hj) (fun t d hd => by cases hd) y h1
  have r2' : r.length = ops.size := by rw [r2]; simp
  simp only [List.reverse_nil, List.nil_append] at r1
  subst r1
  have hrun : ∀ s0, s0 = look σ → _ := fun s0 hs0 => Run.at_ r3 (partAt y.2) s0 (fun j _ => by rw [Nat.zero_add]) (show s0 = look σ from hs0)
  obtain ⟨k1, k2⟩ := hrun _ rfl
  rw [Nat.zero_add, r2'] at k2
  have hok : ∀ (C : Ctx) (Q : Exit → Act → World → Prop) i, i < ops.size → ∀ s a w (K : Act → World → Prop), (∃ e, Rel C N e s a w) → (∀ p ∈ (partAt y.2 i).rd, s p.1 = p.2) → (∀ a' w', (∃ e, Rel C N e ((partAt y.2 i).upd s) a' w') → K a' w') → wpOp P ops Q i K a w := by
    intro C Q i hi s a w K hR hrd hK
    have hx : y.2[i]? = some (y.2[i]'(by omega)) := List.getElem?_eq_getElem (by omega)
    generalize hxx : y.2[i]'(by omega) = x at hx
    have hp := (k1 i x hx).2
    rw [Nat.zero_add] at hp
    have he : partAt y.2 i = partOf x := by unfold partAt; rw [hx]
    rw [he] at hrd hK
    refine hp C Q s a w K hR (fun l hl => hrd (l, look x.σ l) (List.mem_map.2 ⟨l, hl, rfl⟩)) fun a' w' hR' => hK a' w' ?_
    rw [upds_fns] at hR'
    exact hR'
  have htext : ∀ i, i < ops.size → ∀ p ∈ (partAt y.2 i).rd, stAt (partAt y.2) (look σ) (fun _ => true) i p.1 = p.2 := by
    intro i hi p hp
    have hx : y.2[i]? = some (y.2[i]'(by omega)) := List.getElem?_eq_getElem (by omega)
    generalize hxx : y.2[i]'(by omega) = x at hx
    have he : partAt y.2 i = partOf x := by unfold partAt; rw [hx]
    rw [he] at hp
    obtain ⟨l, _, rfl⟩ := List.mem_map.1 hp
    have := (k1 i x hx).1
    rw [Nat.zero_add] at this
    rw [this]
  cases draw with
  | false =>
    obtain rfl : y.1 = σ' := h2
    refine ⟨r3.ext, fun C e a w Q hR hQ => ?_⟩
    exact region_text (fun s a w => ∃ e, Rel C N e s a w) (partAt y.2) (look σ) (hok C Q) htext ⟨e, hR⟩ fun a' w' ⟨e', hR'⟩ => hQ e' a' w' (by rw [← k2]; exact hR')
  | true =>
    simp only [] at h2
    split at h2
    · rename_i hb
      rw [Bool.and_eq_true] at hb
      obtain rfl : y.1 = σ' := h2
      refine ⟨r3.ext, fun C e a w Q hR hQ => ?_⟩
      refine region_parts hm hb.1 (fun s a w => ∃ e, Rel C N e s a w) (partAt y.2) (look σ) (hok C Q) htext ?_ ⟨e, hR.drew⟩ fun a' w' ⟨e', hR'⟩ => hQ e' a' w' (by rw [← k2]; exact hR')
      intro i j hij hj x hx
      exact confB_ok hb.2 i j hij (by omega) x hx
    · exact h2.elim
end
end Sx
end Go.Proofs.Ytladkknbkgomfaa
