/-
  What each operation comes to: fields, elements, slices, aggregates.
-/
import Derived.Test.YtpdhkgfdmpofiaaGreatDoorSxe
set_option linter.unusedSimpArgs false
set_option linter.unusedVariables false
namespace Go.Proofs.YtpdhkgfdmpofiaaGreatDoor
namespace Sx
open Go.RowKit

section
variable {P : Program} {σ : St} {o : Oper} {tb : Tb}

def nilS (v : Sv) : Tree OpE := match v with
  | .one (.ptr _ _) => valT v
  | .one (.fn (.func _) _) => valT v
  | .one (.val (.pointer (some _))) => valT v
  | _ => .fail
theorem nilS_ok {x : Operand} {v : Sv} (ho : o.op = .nilCheck x) (hx : evO σ x = some v) : TreeOk P σ o (nilS v) := by
  unfold nilS
  split
  all_goals first
    | exact TreeOk.fail
    | (refine TreeOk.val fun s e a w hh => ?_
       obtain ⟨x1, x2⟩ := hh x (by rw [ho]; simp [Op.operands]) _ hx
       refine ⟨?_, x2⟩
       unfold execOp
       simp only [ho]
       rw [x1]
       rfl)

theorem ad_add (e : Env) (id off k : Nat) : (e.ad id off).add k = e.ad id (off + k) := by
  unfold Env.ad Addr.add
  split
  · rename_i h; subst h; rfl
  · simp [Nat.add_assoc]
def Sn.add : Sn → Nat → Option Sn
  | .lit n, k => some (.lit (n + k))
  | .opq n, k => some (.opq (n + k))
  | .nam c, 0 => some (.nam c)
  | .nam _, _ + 1 => none
theorem Sn.add_den {x y : Sn} {k : Nat} (h : x.add k = some y) : (∀ e, y.den e = x.den e + k) ∧ ∀ s, x.sc s → y.sc s := by
  cases x with
  | lit n => obtain rfl := Option.some.inj h; exact ⟨fun _ => rfl, fun _ _ => trivial⟩
  | opq n => obtain rfl := Option.some.inj h; exact ⟨fun _ => rfl, fun _ _ => trivial⟩
  | nam c => cases k with
    | zero => obtain rfl := Option.some.inj h; exact ⟨fun _ => rfl, fun _ hs => hs⟩
    | succ k => cases h
def ptrAt (id : Nat) (off : Sn) (k : Nat) : Tree OpE := match off.add k with
  | some o => valT (.one (.ptr id o))
  | none => .fail
theorem ptrAt_ok {id k : Nat} {off : Sn} (h : ∀ (s : Sto) (e : Env) (a : Act) (w : World), (∀ x ∈ o.op.operands, Sees σ s e a x) → (execOp a.eval o).run P w = .ok (.value (.pointer (some ((e.ad id (off.den e)).add k)))) w ∧ kn s id ∧ off.sc s) : TreeOk P σ o (ptrAt id off k) := by
  unfold ptrAt
  split
  · rename_i o' ho'
    obtain ⟨d, sc⟩ := Sn.add_den ho'
    refine TreeOk.val fun s e a w hh => ?_
    obtain ⟨h1, h2, h3⟩ := h s e a w hh
    refine ⟨?_, h2, sc s h3⟩
    rw [h1, ad_add]
    simp only [Sv.den, Cv.den, d e]
  · exact TreeOk.fail

def fieldOf (tb : Tb) (t f : Nat) : Option (Field × TypeInfo) := match tb.und t with
  | some (.struct fs) => match fs.toList[f]? with
    | some fd => (tb.info fd.type).map fun i => (fd, i)
    | none => none
  | _ => none
theorem fieldOf_ok {t f : Nat} {fd : Field} {i : TypeInfo} (h : fieldOf tb t f = some (fd, i)) : ∃ fs, tb.und t = some (.struct fs) ∧ fs[f]? = some fd ∧ tb.info fd.type = some i := by
  unfold fieldOf at h
  split at h
  · rename_i fs hfs
    split at h
    · rename_i fd' hfd
      obtain ⟨i', hi', he⟩ := Option.map_eq_some_iff.1 h
      obtain ⟨rfl, rfl⟩ := Prod.mk.inj he
      exact ⟨fs, hfs, by rw [← Array.getElem?_toList]; exact hfd, hi'⟩
    · cases h
  · cases h
def fieldAddrS (tb : Tb) (t : TypeId) (v : Sv) (f : Nat) : Tree OpE := match v, fieldOf tb t f with
  | .one (.ptr id off), some (fd, i) => match i.size with
    | 0 => .fail
    | _ + 1 => ptrAt id off fd.offset
  | _, _ => .fail
theorem fieldAddrS_ok (hT : TbOk P tb) {t : TypeId} {x : Operand} {f : Nat} {v : Sv} (ho : o.op = .fieldAddr t x f) (hx : evO σ x = some v) : TreeOk P σ o (fieldAddrS tb t v f) := by
  unfold fieldAddrS
  split
  · rename_i id off fd i hf
    obtain ⟨fs, h1, h2, h3⟩ := fieldOf_ok hf
    split
    · exact TreeOk.fail
    · rename_i n hn
      refine ptrAt_ok fun s e a w hh => ?_
      obtain ⟨x1, x2⟩ := hh x (by rw [ho]; simp [Op.operands]) _ hx
      refine ⟨?_, x2.1, x2.2⟩
      unfold execOp
      simp only [ho]
      rw [x1]
      refine runV ?_
      simp only [Instr.fieldAt, Sem.run_bind, run_und hT h1, Result.andThen_ok, h2, Sv.den, Cv.den, Instr.sureAddr, Sem.run_pure, fieldPlace, run_size hT h3, hn]
      rfl
  · exact TreeOk.fail

/-- A part of a list of cells. -/
def partL (tb : Tb) (t : TypeId) (i : TypeInfo) (cs : List Cv) (off : Nat) : Option Sv := match tb.agg t with
  | some true => some (.agg ((cs.drop off).take i.size))
  | some false => (cs[off]?).map .one
  | none => none
theorem densA_part (e : Env) (cs : List Cv) (off n : Nat) : densA e ((cs.drop off).take n) = (densA e cs).extract off (off + n) := by
  unfold densA
  apply Array.ext'
  simp [List.map_take, List.map_drop]
theorem partL_run (hT : TbOk P tb) {t : TypeId} {i : TypeInfo} (hi : tb.info t = some i) {cs : List Cv} {off : Nat} {v : Sv} (h : partL tb t i cs off = some v) (e : Env) (w : World) :
    (part t (densA e cs) off).run P w = .ok (v.den e) w ∧ ∀ s, scs s cs → v.sc s := by
  unfold partL at h
  split at h
  · rename_i ha
    obtain rfl := Option.some.inj h
    refine ⟨?_, fun s hs c hc => hs c (List.mem_of_mem_drop (List.mem_of_mem_take hc))⟩
    simp only [part, Sem.run_bind, run_agg hT ha, Result.andThen_ok, if_true, run_size hT hi, Sem.run_pure, Sv.den]
    rw [densA_part]
  · rename_i ha
    obtain ⟨c, hc, rfl⟩ := Option.map_eq_some_iff.1 h
    refine ⟨?_, fun s hs => hs c (List.mem_of_getElem? hc)⟩
    have : (densA e cs)[off]? = some (c.den e) := by simp [densA, hc]
    simp only [part, Sem.run_bind, run_agg hT ha, Result.andThen_ok, Bool.false_eq_true, if_false, this]
    rfl
  · cases h
def fieldS (tb : Tb) (t : TypeId) (v : Sv) (f : Nat) : Tree OpE := match v, fieldOf tb t f with
  | .agg cs, some (fd, i) => optT ((partL tb fd.type i cs fd.offset).map valT)
  | _, _ => .fail
theorem fieldS_ok (hT : TbOk P tb) {t : TypeId} {x : Operand} {f : Nat} {v : Sv} (ho : o.op = .field t x f) (hx : evO σ x = some v) : TreeOk P σ o (fieldS tb t v f) := by
  unfold fieldS
  split
  · rename_i cs fd i hf
    obtain ⟨fs, h1, h2, h3⟩ := fieldOf_ok hf
    refine TreeOk.opt fun u hu => ?_
    obtain ⟨z, hz, rfl⟩ := Option.map_eq_some_iff.1 hu
    refine TreeOk.val fun s e a w hh => ?_
    obtain ⟨x1, x2⟩ := hh x (by rw [ho]; simp [Op.operands]) _ hx
    obtain ⟨r, sc⟩ := partL_run hT h3 hz e w
    refine ⟨?_, sc s x2⟩
    unfold execOp
    simp only [ho]
    rw [x1]
    refine runV ?_
    simp only [Instr.field, Sem.run_bind, run_und hT h1, Result.andThen_ok, h2]
    show ((part fd.type (densA e cs) fd.offset)).run P w = _
    exact r
  · exact TreeOk.fail

/-! elements -/
/-- An index below n that is not written out: each one apart. -/
def splitT {α : Type} (i : Int) (g : Nat → Tree α) : Nat → Tree α
  | 0 => .fail
  | 1 => g 0
  | n + 1 => .br (decide (i = (n : Int))) (g n) (splitT i g n)
theorem splitT_ok {i : Int} {g : Nat → Tree OpE} : ∀ n : Nat, 0 ≤ i → i < n → (∀ j, j < n → i = j → TreeOk P σ o (g j)) → TreeOk P σ o (splitT i g n)
  | 0, h0, h1, _ => by omega
  | 1, h0, h1, h => h 0 (by omega) (by omega)
  | n + 2, h0, h1, h => by
    refine TreeOk.br (fun hb => h (n + 1) (by omega) (by simpa using hb)) (fun hb => splitT_ok (n + 1) h0 ?_ fun j hj he => h j (by omega) he)
    have : i ≠ ((n + 1 : Nat) : Int) := by simpa using hb
    omega
/-- The element at an index: written out; or below a length that is written out; or any. -/
def elemT (i : Int) (l : Bool) (n : Sn) (lit : Nat → Tree OpE) (any : Option (Nat → Tree OpE)) : Tree OpE := match n with
  | .lit n => match l with
    | true => match decide (0 ≤ i ∧ i < n) with
      | true => lit i.toNat
      | false => .fail
    | false => match any with
      | some g => .must (decide (0 ≤ i ∧ i < n)) (g i.toNat)
      | none => .must (decide (0 ≤ i ∧ i < n)) (splitT i lit n)
  | .opq n => match any with
    | some g => .must (decide (0 ≤ i ∧ i < n)) (g i.toNat)
    | none => .fail
  | .nam _ => .fail
theorem elemT_ok {i : Int} {l : Bool} {n : Sn} {lit : Nat → Tree OpE} {any : Option (Nat → Tree OpE)}
    (hl : ∀ j m, n = .lit m ∨ n = .opq m → j < m → i = j → TreeOk P σ o (lit j)) (ha : ∀ g, any = some g → ∀ j m, n = .lit m ∨ n = .opq m → j < m → i = j → TreeOk P σ o (g j)) : TreeOk P σ o (elemT i l n lit any) := by
  cases n with
  | lit m =>
    cases l with
    | true =>
      simp only [elemT]
      split
      · rename_i hb
        have hb' : 0 ≤ i ∧ i < m := by simpa using hb
        exact hl i.toNat m (Or.inl rfl) (by omega) (by omega)
      · exact TreeOk.fail
    | false =>
      simp only [elemT]
      cases any with
      | some g =>
        refine TreeOk.must fun hb => ?_
        have hb' : 0 ≤ i ∧ i < m := by simpa using hb
        exact ha g rfl i.toNat m (Or.inl rfl) (by omega) (by omega)
      | none =>
        refine TreeOk.must fun hb => ?_
        have hb' : 0 ≤ i ∧ i < m := by simpa using hb
        exact splitT_ok m hb'.1 hb'.2 fun j hj he => hl j m (Or.inl rfl) hj he
  | opq m =>
    simp only [elemT]
    cases any with
    | some g =>
      refine TreeOk.must fun hb => ?_
      have hb' : 0 ≤ i ∧ i < m := by simpa using hb
      exact ha g rfl i.toNat m (Or.inr rfl) (by omega) (by omega)
    | none => exact TreeOk.fail
  | nam c => exact TreeOk.fail
def Sn.addq : Sn → Nat → Option Sn
  | .lit n, k => some (.opq (n + k))
  | .opq n, k => some (.opq (n + k))
  | .nam _, _ => none
theorem Sn.addq_den {x y : Sn} {k : Nat} (h : x.addq k = some y) : (∀ e, y.den e = x.den e + k) ∧ ∀ s, y.sc s := by
  cases x with
  | lit n => obtain rfl := Option.some.inj h; exact ⟨fun _ => rfl, fun _ => trivial⟩
  | opq n => obtain rfl := Option.some.inj h; exact ⟨fun _ => rfl, fun _ => trivial⟩
  | nam c => cases h
def ptrAtQ (id : Nat) (off : Sn) (k : Nat) : Tree OpE := match off.addq k with
  | some o => valT (.one (.ptr id o))
  | none => .fail
theorem ptrAtQ_ok {id k : Nat} {off : Sn} (h : ∀ (s : Sto) (e : Env) (a : Act) (w : World), (∀ x ∈ o.op.operands, Sees σ s e a x) → (execOp a.eval o).run P w = .ok (.value (.pointer (some ((e.ad id (off.den e)).add k)))) w ∧ kn s id ∧ off.sc s) : TreeOk P σ o (ptrAtQ id off k) := by
  unfold ptrAtQ
  split
  · rename_i o' ho'
    obtain ⟨d, sc⟩ := Sn.addq_den ho'
    refine TreeOk.val fun s e a w hh => ?_
    obtain ⟨h1, h2, h3⟩ := h s e a w hh
    refine ⟨?_, h2, sc s⟩
    rw [h1, ad_add]
    simp only [Sv.den, Cv.den, d e]
  · exact TreeOk.fail
/-- Is the block told by a function? -/
def isOq (σ : St) (id : Nat) : Bool := match alook σ.bk id with
  | some (.oq _ _ _ _ _) => true
  | _ => false
def indexAddrS (tb : Tb) (σ : St) (t : TypeId) (v vi : Sv) : Tree OpE := match tb.und t, v, vi with
  | some (.array n el), .one (.ptr id off), .one (.i _ i l) => match tb.info el with
    | some ti => elemT i l (.lit n) (fun j => ptrAt id off (j * ti.size)) (bif isOq σ id then some (fun j => ptrAtQ id off (j * ti.size)) else none)
    | none => .fail
  | some (.slice el), .one (.slc id off len _), .one (.i _ i l) => match tb.info el with
    | some ti => elemT i l len (fun j => ptrAt id off (j * ti.size)) (bif isOq σ id then some (fun j => ptrAtQ id off (j * ti.size)) else none)
    | none => .fail
  | _, _, _ => .fail
theorem indexAddrS_ok (hT : TbOk P tb) {t : TypeId} {x ix : Operand} {v vi : Sv} (ho : o.op = .indexAddr t x ix) (hx : evO σ x = some v) (hi : evO σ ix = some vi) : TreeOk P σ o (indexAddrS tb σ t v vi) := by
  unfold indexAddrS
  split
  · rename_i n el id off k i l hu
    split
    · rename_i ti hti
      have run : ∀ (j : Nat), j < n → i = j → ∀ (s : Sto) (e : Env) (a : Act) (w : World), (∀ x ∈ o.op.operands, Sees σ s e a x) → (execOp a.eval o).run P w = .ok (.value (.pointer (some ((e.ad id (off.den e)).add (j * ti.size))))) w ∧ kn s id ∧ off.sc s := by
        intro j hj he s e a w hh
        obtain ⟨x1, x2⟩ := hh x (by rw [ho]; simp [Op.operands]) _ hx
        obtain ⟨i1, _⟩ := hh ix (by rw [ho]; simp [Op.operands]) _ hi
        refine ⟨?_, x2.1, x2.2⟩
        unfold execOp
        simp only [ho]
        rw [x1, i1]
        refine runV ?_
        subst he
        simp only [Instr.indexAt, Sem.run_bind, Sv.den, Cv.den, asIntOf, Sem.run_pure, Result.andThen_ok, run_und hT hu, Instr.sureAddr]
        rw [if_pos ⟨by omega, by omega⟩, Sem.run_bind, run_size hT hti]
        rfl
      refine elemT_ok ?_ ?_
      · rintro j m (hm | hm) hj he
        · obtain rfl : n = m := by simpa using hm
          exact ptrAt_ok (run j hj he)
        · cases hm
      · intro g hg j m hm hj he
        have hmn : n = m := by rcases hm with hm | hm
                               · simpa using hm
                               · cases hm
        subst hmn
        cases hq : isOq σ id with
        | true => rw [hq] at hg; obtain rfl := Option.some.inj hg; exact ptrAtQ_ok (run j hj he)
        | false => rw [hq] at hg; cases hg
    · exact TreeOk.fail
  · rename_i el id off len cap k i l hu
    split
    · rename_i ti hti
      have run : ∀ (j m : Nat), (len = .lit m ∨ len = .opq m) → j < m → i = j → ∀ (s : Sto) (e : Env) (a : Act) (w : World), (∀ x ∈ o.op.operands, Sees σ s e a x) → (execOp a.eval o).run P w = .ok (.value (.pointer (some ((e.ad id (off.den e)).add (j * ti.size))))) w ∧ kn s id ∧ off.sc s := by
        intro j m hm hj he s e a w hh
        obtain ⟨x1, x2⟩ := hh x (by rw [ho]; simp [Op.operands]) _ hx
        obtain ⟨i1, _⟩ := hh ix (by rw [ho]; simp [Op.operands]) _ hi
        refine ⟨?_, x2.1, x2.2.1⟩
        have hd : len.den e = m := by rcases hm with rfl | rfl <;> rfl
        unfold execOp
        simp only [ho]
        rw [x1, i1]
        refine runV ?_
        subst he
        simp only [Instr.indexAt, Sem.run_bind, Sv.den, Cv.den, asIntOf, Sem.run_pure, Result.andThen_ok, run_und hT hu]
        rw [if_pos ⟨by omega, by omega⟩, Sem.run_bind, run_size hT hti]
        rfl
      refine elemT_ok (fun j m hm hj he => ptrAt_ok (run j m hm hj he)) ?_
      intro g hg j m hm hj he
      cases hq : isOq σ id with
      | true => rw [hq] at hg; obtain rfl := Option.some.inj hg; exact ptrAtQ_ok (run j m hm hj he)
      | false => rw [hq] at hg; cases hg
    · exact TreeOk.fail
  · exact TreeOk.fail
def indexS (tb : Tb) (t : TypeId) (v vi : Sv) : Tree OpE := match tb.und t, v, vi with
  | some (.array n el), .agg cs, .one (.i _ i l) => match tb.info el with
    | some ti => elemT i l (.lit n) (fun j => optT ((partL tb el ti cs (j * ti.size)).map valT)) none
    | none => .fail
  | some .string, .one (.s x lx), .one (.i _ i l) => mustL (l && lx) (decide (0 ≤ i ∧ i < x.size)) (valT (.one (.i .u8 (x.data.getD i.toNat 0).toNat (l && lx))))
  | _, _, _ => .fail
theorem indexS_ok (hT : TbOk P tb) {t : TypeId} {x ix : Operand} {v vi : Sv} (ho : o.op = .index t x ix) (hx : evO σ x = some v) (hi : evO σ ix = some vi) : TreeOk P σ o (indexS tb t v vi) := by
  unfold indexS
  split
  · rename_i n el cs k i l hu
    split
    · rename_i ti hti
      refine elemT_ok ?_ (fun g hg => by cases hg)
      rintro j m (hm | hm) hj he
      · obtain rfl : n = m := by simpa using hm
        refine TreeOk.opt fun u hu' => ?_
        obtain ⟨z, hz, rfl⟩ := Option.map_eq_some_iff.1 hu'
        refine TreeOk.val fun s e a w hh => ?_
        obtain ⟨x1, x2⟩ := hh x (by rw [ho]; simp [Op.operands]) _ hx
        obtain ⟨i1, _⟩ := hh ix (by rw [ho]; simp [Op.operands]) _ hi
        obtain ⟨r, sc⟩ := partL_run hT hti hz e w
        refine ⟨?_, sc s x2⟩
        unfold execOp
        simp only [ho]
        rw [x1, i1]
        refine runV ?_
        subst he
        simp only [Instr.index, Sem.run_bind, Sv.den, Cv.den, asIntOf, Sem.run_pure, Result.andThen_ok, run_und hT hu]
        rw [if_pos ⟨by omega, by omega⟩, Sem.run_bind, run_size hT hti, Result.andThen_ok]
        exact r
      · cases hm
    · exact TreeOk.fail
  · rename_i u lx k i l hu
    refine TreeOk.mustL fun hb => ?_
    have hb' : 0 ≤ i ∧ i < u.size := by simpa using hb
    refine TreeOk.val fun s e a w hh => ⟨?_, trivial⟩
    obtain ⟨x1, _⟩ := hh x (by rw [ho]; simp [Op.operands]) _ hx
    obtain ⟨i1, _⟩ := hh ix (by rw [ho]; simp [Op.operands]) _ hi
    unfold execOp
    simp only [ho]
    rw [x1, i1]
    refine runV ?_
    have hlt : i.toNat < u.size := by omega
    have hg : u[i.toNat]? = some (u.data.getD i.toNat 0) := by
      rw [getElem?_pos u i.toNat hlt]
      have h2 : i.toNat < u.data.size := hlt
      simp only [Array.getD, dif_pos h2]
      rfl
    simp only [Instr.index, Sem.run_bind, Sv.den, Cv.den, asIntOf, Sem.run_pure, Result.andThen_ok, run_und hT hu, if_pos hb'.1, hg]
  · exact TreeOk.fail

/-! len, cap, min, max -/
def lenS (tb : Tb) (t : TypeId) (v : Sv) : Tree OpE := match tb.und t, v with
  | some (.slice _), .one (.slc _ _ (.lit n) _) => valT (.one (.i .i64 n true))
  | some (.slice _), .one (.slc _ _ (.opq n) _) => valT (.one (.i .i64 n false))
  | some (.slice _), .one (.val (.slice _ n _)) => valT (.one (.i .i64 n true))
  | some .string, .one (.s x l) => valT (.one (.i .i64 x.size l))
  | some (.array n _), _ => valT (.one (.i .i64 n true))
  | _, _ => .fail
def callB (o : Oper) : Option (Builtin × List Operand × List TypeId) := match o.op with
  | .call { callee := .builtin b, args, argTypes } => some (b, args.toList, argTypes.toList)
  | _ => none
theorem run_builtin {b : Builtin} {args : Array Operand} {ts : Array TypeId} {a : Act} {w : World} (ho : o.op = .call { callee := .builtin b, args := args, argTypes := ts }) :
    (execOp a.eval o).run P w = (builtin b ts o.type (args.map fun | .const _ => true | _ => false) (args.map a.eval)).run P w := by
  unfold execOp
  simp only [ho]
  rfl
theorem lenS_ok (hT : TbOk P tb) {x : Operand} {t : TypeId} {v : Sv} (ho : o.op = .call { callee := .builtin .len, args := #[x], argTypes := #[t] }) (hx : evO σ x = some v) : TreeOk P σ o (lenS tb t v) := by
  have go : ∀ {n : Int} {l : Bool}, (∀ (e : Env) (w : World), (Builtin.len_ #[t] o.type #[v.den e]).run P w = .ok (.int .i64 n) w) → TreeOk P σ o (valT (.one (.i .i64 n l))) := by
    intro n l h
    refine TreeOk.val fun s e a w hh => ⟨?_, trivial⟩
    obtain ⟨x1, _⟩ := hh x (by rw [ho]; simp [Op.operands, Call.operands]) _ hx
    rw [run_builtin ho]
    simp only [List.map_toArray, List.map_cons, List.map_nil, x1]
    exact runV (h e w)
  unfold lenS
  split
  · rename_i el id off n cap hu
    exact go fun e w => by simp [Builtin.len_, run_und hT hu, Sv.den, Cv.den, Sn.den, goInt]
  · rename_i el id off n cap hu
    exact go fun e w => by simp [Builtin.len_, run_und hT hu, Sv.den, Cv.den, Sn.den, goInt]
  · rename_i el q n c hu
    exact go fun e w => by simp [Builtin.len_, run_und hT hu, Sv.den, Cv.den, goInt]
  · rename_i u l hu
    exact go fun e w => by simp [Builtin.len_, run_und hT hu, Sv.den, Cv.den, goInt]
  · rename_i n el v' hu
    exact go fun e w => by simp [Builtin.len_, run_und hT hu, goInt]
  · exact TreeOk.fail
def mm (mx : Bool) (x y : Int) : Int := bif mx then (if y > x then y else x) else (if y < x then y else x)
def mmS (mx : Bool) (vx vy : Sv) : Tree OpE := match vx, vy with
  | .one (.i k x lx), .one (.i k' y ly) => if k = k' then valT (.one (.i k (mm mx x y) (lx && ly))) else .fail
  | _, _ => .fail
theorem mmS_ok {mx : Bool} {x y : Operand} {ts : Array TypeId} {vx vy : Sv} (ho : o.op = .call { callee := .builtin (if mx = true then .max else .min), args := #[x, y], argTypes := ts }) (hx : evO σ x = some vx) (hy : evO σ y = some vy) : TreeOk P σ o (mmS mx vx vy) := by
  unfold mmS
  split
  · rename_i k n lx k' m ly
    split
    · rename_i hk; subst hk
      refine TreeOk.val fun s e a w hh => ⟨?_, trivial⟩
      obtain ⟨x1, _⟩ := hh x (by rw [ho]; simp [Op.operands, Call.operands]) _ hx
      obtain ⟨y1, _⟩ := hh y (by rw [ho]; simp [Op.operands, Call.operands]) _ hy
      rw [run_builtin ho]
      simp only [List.map_toArray, List.map_cons, List.map_nil, x1, y1, Sv.den, Cv.den]
      cases mx <;> rfl
    · exact TreeOk.fail
  · exact TreeOk.fail

/-! a slice of a slice, of an array -/
def bndX (σ : St) (x : Operand) : Option Nat := match evO σ x with
  | some (.one (.i _ n true)) => match decide (0 ≤ n) with
    | true => some n.toNat
    | false => none
  | _ => none
def bnd (σ : St) : Option Operand → Option (Option Nat)
  | none => some none
  | some x => (bndX σ x).map some
theorem bnd_some {y : Operand} {n : Nat} (h : bndX σ y = some n) : ∃ k, evO σ y = some (.one (.i k (n : Int) true)) := by
  unfold bndX at h
  split at h
  · rename_i k m hm
    split at h
    · rename_i hb
      have hb' : 0 ≤ m := by simpa using hb
      obtain rfl := Option.some.inj h
      exact ⟨k, by rw [Int.toNat_of_nonneg hb']; exact hm⟩
    · cases h
  · cases h
def lo0 : Option Nat → Nat
  | some n => n
  | none => 0
/-- A bound of a slice: it is not given; or it is the number l. -/
def BndIs (σ : St) : Option Operand → Option Nat → Prop
  | none, none => True
  | some x, some n => ∃ k b, evO σ x = some (.one (.i k (n : Int) b))
  | _, _ => False
def bndT (σ : St) (x : Option Operand) (m : Option Nat) (g : Option Nat → Tree OpE) : Tree OpE := match x with
  | none => g none
  | some x => match evO σ x with
    | some (.one (.i _ n true)) => match decide (0 ≤ n) with
      | true => g (some n.toNat)
      | false => .fail
    | some (.one (.i _ n false)) => match m with
      | some m => .must (decide (0 ≤ n ∧ n ≤ m)) (splitT n (fun j => g (some j)) (m + 1))
      | none => .must (decide (0 ≤ n)) (g (some n.toNat))
    | _ => .fail
theorem bndT_ok {x : Option Operand} {m : Option Nat} {g : Option Nat → Tree OpE} (h : ∀ l, BndIs σ x l → TreeOk P σ o (g l)) : TreeOk P σ o (bndT σ x m g) := by
  unfold bndT
  split
  · exact h none trivial
  · rename_i x
    split
    · rename_i k n hn
      split
      · rename_i hb
        have hb' : 0 ≤ n := by simpa using hb
        exact h _ ⟨k, true, by rw [Int.toNat_of_nonneg hb']; exact hn⟩
      · exact TreeOk.fail
    · rename_i k n hn
      split
      · rename_i m
        refine TreeOk.must fun hb => ?_
        have hb' : 0 ≤ n ∧ n ≤ m := by simpa using hb
        exact splitT_ok (m + 1) hb'.1 (by omega) fun j _ hj => h _ ⟨k, false, by rw [hn, hj]⟩
      · refine TreeOk.must fun hb => ?_
        have hb' : 0 ≤ n := by simpa using hb
        exact h _ ⟨k, false, by rw [Int.toNat_of_nonneg hb']; exact hn⟩
    · exact TreeOk.fail
def lenB (tb : Tb) (t : TypeId) (v : Sv) : Option Nat := match tb.und t, v with
  | some (.array n _), _ => some n
  | some (.slice _), .one (.slc _ _ (.lit n) _) => some n
  | some .string, _ => none
  | _, _ => some 0
def sliceC (tb : Tb) (t : TypeId) (v : Sv) (l h : Option Nat) : Tree OpE := match tb.und t, v with
  | some (.array n el), .one (.ptr id off) => match tb.info el with
    | some ti => match decide (lo0 l ≤ h.getD n ∧ h.getD n ≤ n) with
      | true => match decide (n = lo0 l) with
        | true => valT (.one (.slc id off (.lit (h.getD n - lo0 l)) (.lit 0)))
        | false => match off.add (lo0 l * ti.size) with
          | some o => valT (.one (.slc id o (.lit (h.getD n - lo0 l)) (.lit (n - lo0 l))))
          | none => .fail
      | false => .fail
    | none => .fail
  | some (.slice el), .one (.slc id off (.lit n) cap) => match tb.info el with
    | some ti => match decide (lo0 l ≤ h.getD n ∧ h.getD n ≤ n) with
      | true => match cap with
        | .lit c => match decide (h.getD n ≤ c) with
          | true => match decide (c = lo0 l) with
            | true => valT (.one (.slc id off (.lit (h.getD n - lo0 l)) (.lit 0)))
            | false => match off.add (lo0 l * ti.size) with
              | some o => valT (.one (.slc id o (.lit (h.getD n - lo0 l)) (.lit (c - lo0 l))))
              | none => .fail
          | false => .fail
        | _ => .fail
      | false => .fail
    | none => .fail
  | some .string, .one (.s x lx) => .must (decide (lo0 l ≤ h.getD x.size ∧ h.getD x.size ≤ x.size)) (valT (.one (.s (x.extract (lo0 l) (h.getD x.size)) lx)))
  | some (.slice el), .one (.val (.slice none 0 0)) => match tb.info el, decide (lo0 l = 0 ∧ h.getD 0 = 0) with
    | some _, true => valT v
    | _, _ => .fail
  | _, _ => .fail
def sliceS (tb : Tb) (σ : St) (t : TypeId) (v : Sv) (lo hi mx : Option Operand) : Tree OpE := match mx with
  | none => bndT σ lo (lenB tb t v) fun l => bndT σ hi (lenB tb t v) fun h => sliceC tb t v l h
  | some _ => .fail
theorem bnds_run {lo hi : Option Operand} {l h : Option Nat} (hl : BndIs σ lo l) (hh : BndIs σ hi h) {s : Sto} {e : Env} {a : Act} (hs : ∀ x, (lo = some x ∨ hi = some x) → Sees σ s e a x) (b : Bool) (len cap : Nat) (h1 : lo0 l ≤ h.getD len) (h2 : h.getD len ≤ cap) (w : World) :
    (Instr.sliceBounds b len cap (lo.map a.eval) (hi.map a.eval) none).run P w = .ok (lo0 l, h.getD len, cap) w := by
  have kl : ∀ x, lo = some x → ∃ k, a.eval x = .int k (lo0 l) := by
    intro x hx
    subst hx
    cases l with
    | none => exact hl.elim
    | some n =>
      obtain ⟨k, b, hk⟩ := hl
      exact ⟨k, (hs x (Or.inl rfl) _ hk).1⟩
  have kh : ∀ x, hi = some x → ∃ k, a.eval x = .int k (h.getD len) := by
    intro x hx
    subst hx
    cases h with
    | none => exact hh.elim
    | some n =>
      obtain ⟨k, b, hk⟩ := hh
      exact ⟨k, (hs x (Or.inr rfl) _ hk).1⟩
  have nl : lo = none → lo0 l = 0 := by
    intro hx; subst hx
    cases l with
    | none => rfl
    | some n => exact hl.elim
  have nh : hi = none → h.getD len = len := by
    intro hx; subst hx
    cases h with
    | none => rfl
    | some n => exact hh.elim
  clear hl hh hs
  generalize lo0 l = L at *
  generalize h.getD len = H at *
  cases lo with
  | none =>
    obtain rfl := nl rfl
    cases hi with
    | none => obtain rfl := nh rfl; simp [Instr.sliceBounds]
    | some y =>
      obtain ⟨k, hk⟩ := kh y rfl
      simp [Instr.sliceBounds, hk, run_sliceBound _ _ _ _ _ (Int.natCast_nonneg H) (show (H : Int) ≤ (cap : Nat) by omega)]
  | some x =>
    obtain ⟨k, hk⟩ := kl x rfl
    cases hi with
    | none =>
      obtain rfl := nh rfl
      simp [Instr.sliceBounds, hk, run_sliceBound _ _ _ _ _ (Int.natCast_nonneg L) (show (L : Int) ≤ (H : Nat) by omega)]
    | some y =>
      obtain ⟨k', hk'⟩ := kh y rfl
      simp [Instr.sliceBounds, hk, hk', run_sliceBound _ _ _ _ _ (Int.natCast_nonneg L) (show (L : Int) ≤ (H : Nat) by omega), run_sliceBound _ _ _ _ _ (Int.natCast_nonneg H) (show (H : Int) ≤ (cap : Nat) by omega)]
theorem sliceC_ok (hT : TbOk P tb) {t : TypeId} {x : Operand} {lo hi : Option Operand} {v : Sv} (ho : o.op = .slice t x lo hi none) (hx : evO σ x = some v) {l h : Option Nat} (hl : BndIs σ lo l) (hh : BndIs σ hi h) : TreeOk P σ o (sliceC tb t v l h) := by
  have sees : ∀ {s : Sto} {e : Env} {a : Act}, (∀ x ∈ o.op.operands, Sees σ s e a x) → ∀ y, (lo = some y ∨ hi = some y) → Sees σ s e a y := by
    intro s e a hh y hy
    refine hh y ?_
    rw [ho]
    rcases hy with rfl | rfl <;> simp [Op.operands]
  unfold sliceC
  split
  · rename_i n el id off hu
    split
    · rename_i ti hti
      split
      · rename_i hb
        have hb' : lo0 l ≤ h.getD n ∧ h.getD n ≤ n := by simpa using hb
        have run : ∀ (s : Sto) (e : Env) (a : Act) (w : World), (∀ x ∈ o.op.operands, Sees σ s e a x) → (execOp a.eval o).run P w = .ok (.value (.slice (some (if n = lo0 l then e.ad id (off.den e) else (e.ad id (off.den e)).add (lo0 l * ti.size))) (h.getD n - lo0 l) (n - lo0 l))) w ∧ kn s id ∧ off.sc s := by
          intro s e a w hs
          obtain ⟨x1, x2⟩ := hs x (by rw [ho]; simp [Op.operands]) _ hx
          refine ⟨?_, x2.1, x2.2⟩
          unfold execOp
          simp only [ho]
          rw [x1]
          refine runV ?_
          simp only [Instr.sliceAt, Sem.run_bind, run_und hT hu, Result.andThen_ok, Sv.den, Cv.den, Instr.sureAddr, Sem.run_pure, Option.map_none]
          rw [bnds_run hl hh (sees hs) false n n hb'.1 hb'.2]
          simp only [Result.andThen_ok, run_size hT hti]
        split
        · rename_i hc
          have hc' : n = lo0 l := by simpa using hc
          refine TreeOk.val fun s e a w hs => ?_
          obtain ⟨r, k1, k2⟩ := run s e a w hs
          refine ⟨?_, k1, k2, trivial, trivial⟩
          rw [r, if_pos hc']
          simp only [Sv.den, Cv.den, Sn.den]
          rw [show n - lo0 l = 0 by omega]
        · rename_i hc
          have hc' : ¬ n = lo0 l := by simpa using hc
          split
          · rename_i o' ho'
            obtain ⟨d, sc⟩ := Sn.add_den ho'
            refine TreeOk.val fun s e a w hs => ?_
            obtain ⟨r, k1, k2⟩ := run s e a w hs
            refine ⟨?_, k1, sc s k2, trivial, trivial⟩
            rw [r, if_neg hc', ad_add, ← d e]
            rfl
          · exact TreeOk.fail
      · exact TreeOk.fail
    · exact TreeOk.fail
  · rename_i el id off n cap hu
    split
    · rename_i ti hti
      split
      · rename_i hb
        have hb' : lo0 l ≤ h.getD n ∧ h.getD n ≤ n := by simpa using hb
        split
        · rename_i c
          split
          · rename_i hcc
            have hcc' : h.getD n ≤ c := by simpa using hcc
            have run : ∀ (s : Sto) (e : Env) (a : Act) (w : World), (∀ x ∈ o.op.operands, Sees σ s e a x) → (execOp a.eval o).run P w = .ok (.value (.slice (if c = lo0 l then some (e.ad id (off.den e)) else some ((e.ad id (off.den e)).add (lo0 l * ti.size))) (h.getD n - lo0 l) (c - lo0 l))) w ∧ kn s id ∧ off.sc s := by
              intro s e a w hs
              obtain ⟨x1, x2⟩ := hs x (by rw [ho]; simp [Op.operands]) _ hx
              refine ⟨?_, x2.1, x2.2.1⟩
              unfold execOp
              simp only [ho]
              rw [x1]
              refine runV ?_
              simp only [Instr.sliceAt, Sem.run_bind, run_und hT hu, Result.andThen_ok, Sv.den, Cv.den, Instr.slice, Sn.den, Option.map_none]
              rw [bnds_run hl hh (sees hs) true n c hb'.1 hcc']
              simp only [Result.andThen_ok, run_size hT hti, Sem.run_pure, Option.map_some]
            split
            · rename_i hc
              have hc' : c = lo0 l := by simpa using hc
              refine TreeOk.val fun s e a w hs => ?_
              obtain ⟨r, k1, k2⟩ := run s e a w hs
              refine ⟨?_, k1, k2, trivial, trivial⟩
              rw [r, if_pos hc']
              simp only [Sv.den, Cv.den, Sn.den]
              rw [show c - lo0 l = 0 by omega]
            · rename_i hc
              have hc' : ¬ c = lo0 l := by simpa using hc
              split
              · rename_i o' ho'
                obtain ⟨d, sc⟩ := Sn.add_den ho'
                refine TreeOk.val fun s e a w hs => ?_
                obtain ⟨r, k1, k2⟩ := run s e a w hs
                refine ⟨?_, k1, sc s k2, trivial, trivial⟩
                rw [r, if_neg hc', ad_add, ← d e]
                rfl
              · exact TreeOk.fail
          · exact TreeOk.fail
        · exact TreeOk.fail
      · exact TreeOk.fail
    · exact TreeOk.fail
  · rename_i u lx hu
    refine TreeOk.must fun hb => ?_
    have hb' : lo0 l ≤ h.getD u.size ∧ h.getD u.size ≤ u.size := by simpa using hb
    refine TreeOk.val fun s e a w hs => ⟨?_, trivial⟩
    obtain ⟨x1, _⟩ := hs x (by rw [ho]; simp [Op.operands]) _ hx
    unfold execOp
    simp only [ho]
    rw [x1]
    refine runV ?_
    simp only [Instr.sliceAt, Sem.run_bind, run_und hT hu, Result.andThen_ok, Sv.den, Cv.den, Instr.slice, Option.map_none, Option.isSome_none, Bool.false_eq_true, if_false, Sem.run_pure]
    rw [bnds_run hl hh (sees hs) false u.size u.size hb'.1 hb'.2]
    rfl
  · -- nothing of nil
    rename_i el hu
    split
    · rename_i ti hti hb
      have hb' : lo0 l = 0 ∧ h.getD 0 = 0 := by simpa using hb
      refine TreeOk.val fun s e a w hs => ⟨?_, trivial⟩
      obtain ⟨x1, _⟩ := hs x (by rw [ho]; simp [Op.operands]) _ hx
      unfold execOp
      simp only [ho]
      rw [x1]
      refine runV ?_
      simp only [Instr.sliceAt, Sem.run_bind, run_und hT hu, Result.andThen_ok, Sv.den, Cv.den, Instr.slice, Option.map_none]
      rw [bnds_run hl hh (sees hs) true 0 0 (by omega) (by omega)]
      obtain ⟨h1, h2⟩ := hb'
      simp [h1, h2, run_size hT hti]
    · exact TreeOk.fail
  · exact TreeOk.fail
theorem sliceS_ok (hT : TbOk P tb) {t : TypeId} {x : Operand} {lo hi mx : Option Operand} {v : Sv} (ho : o.op = .slice t x lo hi mx) (hx : evO σ x = some v) : TreeOk P σ o (sliceS tb σ t v lo hi mx) := by
  unfold sliceS
  split
  · exact bndT_ok fun l hl => bndT_ok fun h hh => sliceC_ok hT ho hx hl hh
  · exact TreeOk.fail
end
end Sx
end Go.Proofs.YtpdhkgfdmpofiaaGreatDoor
