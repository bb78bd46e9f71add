/-
  Structs and arrays held against each other.
-/
import Derived.Test.YtpdhkgfdmpofiaaGreatDoorSxf
import Derived.ChangeKeysEq
set_option linter.unusedSimpArgs false
set_option linter.unusedVariables false
namespace Go.Proofs.YtpdhkgfdmpofiaaGreatDoor
namespace Sx
open Go.RowKit

section
variable {P : Program} {σ : St} {o : Oper} {tb : Tb}

/-- Both; and whether it stands written out. -/
def andQ : Bool × Bool → Bool × Bool → Bool × Bool
  | (r, true), q => match r with
    | true => q
    | false => (false, true)
  | (r, false), (r', true) => match r' with
    | true => (r, false)
    | false => (false, true)
  | (r, false), (r', false) => (r && r', false)
theorem andQ_1 {a b : Bool × Bool} : (andQ a b).1 = (a.1 && b.1) := by
  obtain ⟨r, l⟩ := a
  obtain ⟨r', l'⟩ := b
  cases l
  · cases l'
    · rfl
    · cases r' <;> simp [andQ]
  · cases r <;> rfl
abbrev EqF := TypeId → Sv → Sv → Option (Bool × Bool)
def both (a b : Option (Bool × Bool)) : Option (Bool × Bool) := match a, b with
  | some p, some q => some (andQ p q)
  | _, _ => none
def parts2 (tb : Tb) (f : EqF) (t : TypeId) (off : Nat) (cs ds : List Cv) : Option (Bool × Bool) := match tb.info t with
  | some i => match partL tb t i cs off, partL tb t i ds off with
    | some a, some b => f t a b
    | _, _ => none
  | none => none
def eqFs (tb : Tb) (f : EqF) (cs ds : List Cv) : List Field → Option (Bool × Bool)
  | [] => some (true, true)
  | fd :: fs => match fd.name == "_" with
    | true => none
    | false => both (parts2 tb f fd.type fd.offset cs ds) (eqFs tb f cs ds fs)
def eqIs (tb : Tb) (f : EqF) (el c : Nat) (cs ds : List Cv) : List Nat → Option (Bool × Bool)
  | [] => some (true, true)
  | i :: is => both (parts2 tb f el (i * c) cs ds) (eqIs tb f el c cs ds is)
def eqV (tb : Tb) : Nat → EqF
  | 0, _, _, _ => none
  | d + 1, t, v, u => match tb.und t, v, u with
    | some .bool, .one (.b p lp), .one (.b q lq) => some (p == q, lp && lq)
    | some (.int _), .one (.i k n ln), .one (.i k' m lm) => if k = k' then some (n == m, ln && lm) else none
    | some .string, .one (.s n ln), .one (.s m lm) => some (n == m, ln && lm)
    | some (.struct fs), .agg cs, .agg ds => match memb tb.eq t with
      | true => eqFs tb (eqV tb d) cs ds fs.toList
      | false => none
    | some (.array n el), .agg cs, .agg ds => match tb.info el with
      | some i => eqIs tb (eqV tb d) el i.size cs ds (List.range n)
      | none => none
    | _, _, _ => none
def EqFOk (P : Program) (d : Nat) (f : EqF) : Prop := ∀ t v u r, f t v u = some r → ∀ (e : Env) (w : World), (Op.equalIn d t (v.den e) (u.den e)).run P w = .ok r.1 w
theorem parts2_ok (hT : TbOk P tb) {d : Nat} {f : EqF} (hf : EqFOk P d f) {t off : Nat} {cs ds : List Cv} {r : Bool × Bool} (h : parts2 tb f t off cs ds = some r) (e : Env) (w : World) :
    ∃ a b, (part t (densA e cs) off).run P w = .ok a w ∧ (part t (densA e ds) off).run P w = .ok b w ∧ (Op.equalIn d t a b).run P w = .ok r.1 w := by
  unfold parts2 at h
  split at h
  · rename_i i hi
    split at h
    · rename_i a b ha hb
      exact ⟨_, _, (partL_run hT hi ha e w).1, (partL_run hT hi hb e w).1, hf _ _ _ _ h e w⟩
    · cases h
  · cases h
theorem both_some {a b : Option (Bool × Bool)} {r : Bool × Bool} (h : both a b = some r) : ∃ p q, a = some p ∧ b = some q ∧ r.1 = (p.1 && q.1) := by
  unfold both at h
  split at h
  · obtain rfl := Option.some.inj h
    exact ⟨_, _, rfl, rfl, andQ_1⟩
  · cases h
theorem eqFs_ok (hT : TbOk P tb) {d : Nat} {f : EqF} (hf : EqFOk P d f) {cs ds : List Cv} : ∀ {fs : List Field} {r : Bool × Bool}, eqFs tb f cs ds fs = some r → ∀ (e : Env) (w : World), (Op.eqFields d (densA e cs) (densA e ds) fs).run P w = .ok r.1 w
  | [], r, h, e, w => by
    obtain rfl := Option.some.inj h
    rfl
  | fd :: fs, r, h, e, w => by
    simp only [eqFs] at h
    split at h
    · cases h
    · rename_i hn
      obtain ⟨p, q, h1, h2, h3⟩ := both_some h
      obtain ⟨a, b, p1, p2, p3⟩ := parts2_ok hT hf h1 e w
      have hn' : fd.name ≠ "_" := by simpa using hn
      simp only [Op.eqFields, if_pos hn', Sem.run_bind, p1, p2, p3, Result.andThen_ok, h3]
      cases hp : p.1
      · rfl
      · simpa using eqFs_ok hT hf h2 e w
theorem eqIs_ok (hT : TbOk P tb) {d : Nat} {f : EqF} (hf : EqFOk P d f) {el c : Nat} {cs ds : List Cv} : ∀ {is : List Nat} {r : Bool × Bool}, eqIs tb f el c cs ds is = some r → ∀ (e : Env) (w : World), (Op.eqItems d el c (densA e cs) (densA e ds) is).run P w = .ok r.1 w
  | [], r, h, e, w => by
    obtain rfl := Option.some.inj h
    rfl
  | i :: is, r, h, e, w => by
    simp only [eqIs] at h
    obtain ⟨p, q, h1, h2, h3⟩ := both_some h
    obtain ⟨a, b, p1, p2, p3⟩ := parts2_ok hT hf h1 e w
    simp only [Op.eqItems, Sem.run_bind, p1, p2, p3, Result.andThen_ok, h3]
    cases hp : p.1
    · rfl
    · simpa using eqIs_ok hT hf h2 e w
theorem eqV_ok (hT : TbOk P tb) : ∀ (d k : Nat), EqFOk P (k + d) (eqV tb d)
  | 0, _, _, _, _, _, h => by cases h
  | d + 1, k, t, v, u, r, h => by
    intro e w
    rw [← Nat.add_assoc]
    simp only [eqV] at h
    split at h
    · rename_i p lp q lq hu
      obtain rfl := Option.some.inj h
      exact run_equalIn_bool' w _ t p q (hT.und hu)
    · rename_i k' n ln k'' m lm hu
      split at h
      · rename_i hk
        obtain rfl := Option.some.inj h
        subst hk
        exact run_equalIn_int w _ t _ _ n m (hT.und hu)
      · cases h
    · rename_i n ln m lm hu
      obtain rfl := Option.some.inj h
      show (Op.equalIn (k + d + 1) t (.string n) (.string m)).run P w = .ok (n == m) w
      rw [run_equalIn_string w _ t n m (hT.und hu), beq_toListBytes]
    · rename_i fs cs ds hu
      split at h
      · rename_i hm
        have hP := hT.und hu
        have hfs : P.fieldsOf t = fs := by simp [Program.fieldsOf, hP]
        show (Op.equalIn (k + d + 1) t (.agg (densA e cs)) (.agg (densA e ds))).run P w = _
        rw [run_equalIn_struct w _ t _ _ (by rw [hfs]; exact hP) (hT.eq t (memb_iff.1 hm)).1, hfs]
        exact eqFs_ok hT (eqV_ok hT d k) h e w
      · cases h
    · rename_i n el cs ds hu
      split at h
      · rename_i i hi
        have hP := hT.und hu
        show (Op.equalIn (k + d + 1) t (.agg (densA e cs)) (.agg (densA e ds))).run P w = _
        have hc : P.cellsOf el = i.size := by simp [Program.cellsOf, hT.info hi]
        rw [run_equalIn_array w _ _ _ hP (hT.info hi), hc]
        exact eqIs_ok hT (eqV_ok hT d k) h e w
      · cases h
    · cases h

def binA (tb : Tb) (op : BinOp) (t : TypeId) (x y : Operand) (vx vy : Sv) : Tree OpE := match vx, vy with
  | .agg cs, .agg ds => match memb tb.eq t, eqlB op, eqV tb 50 t (.agg cs) (.agg ds) with
    | true, some true, some (r, l) => valT (.one (.b r l))
    | true, some false, some (r, l) => valT (.one (.b (!r) l))
    | _, _, _ => .fail
  | vx, vy => binS tb op t x y vx vy
theorem binA_ok (hT : TbOk P tb) {op : BinOp} {t yt : TypeId} {x y : Operand} {vx vy : Sv} (ho : o.op = .binOp op t x y yt) (hx : evO σ x = some vx) (hy : evO σ y = some vy) : TreeOk P σ o (binA tb op t x y vx vy) := by
  unfold binA
  split
  · rename_i cs ds
    have go : ∀ {v : Sv}, (∀ (e : Env) (w : World), (do eqGuard op t x y (.agg (densA e cs)) (.agg (densA e ds)); binOp op t (.agg (densA e cs)) (.agg (densA e ds)) : Sem Value).run P w = .ok (v.den e) w) → (∀ s, v.sc s) → TreeOk P σ o (valT v) := by
      intro v h hs
      refine TreeOk.val fun s e a w hh => ⟨?_, hs s⟩
      obtain ⟨x1, _⟩ := hh x (by rw [ho]; simp [Op.operands]) _ hx
      obtain ⟨y1, _⟩ := hh y (by rw [ho]; simp [Op.operands]) _ hy
      unfold execOp
      simp only [ho]
      rw [x1, y1]
      exact runV (h e w)
    split
    · rename_i r l hm hop hv
      obtain rfl : op = .eql := by cases op <;> first | rfl | cases hop
      refine go (fun e w => ?_) (fun _ => trivial)
      rw [Sem.run_bind, run_eqGuard_agg w _ _ _ _ _ _ (hT.eq t (memb_iff.1 hm)).2]
      simp only [Result.andThen_ok]
      rw [run_eql_struct]
      have := eqV_ok hT 50 9950 _ _ _ _ hv e w
      rw [show (10000 : Nat) = 9950 + 50 from rfl]
      simp only [Sv.den] at this
      rw [this]
      rfl
    · rename_i r l hm hop hv
      obtain rfl : op = .neq := by cases op <;> first | rfl | cases hop
      refine go (fun e w => ?_) (fun _ => trivial)
      rw [Sem.run_bind, run_eqGuard_agg w _ _ _ _ _ _ (hT.eq t (memb_iff.1 hm)).2]
      simp only [Result.andThen_ok]
      rw [run_neq_struct]
      have := eqV_ok hT 50 9950 _ _ _ _ hv e w
      rw [show (10000 : Nat) = 9950 + 50 from rfl]
      simp only [Sv.den] at this
      rw [this]
      rfl
    · exact TreeOk.fail
  · exact binS_ok hT ho hx hy
end
end Sx
end Go.Proofs.YtpdhkgfdmpofiaaGreatDoor
