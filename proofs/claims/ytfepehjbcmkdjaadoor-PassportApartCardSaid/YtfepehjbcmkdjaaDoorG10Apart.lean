/-
  Events: their bytes and their texts tell them apart: the plain law.
-/
import Derived.Test.YtfepehjbcmkdjaaDoorG0Apart
import Derived.Lib.ItoaNum
import Derived.Lib.ItoaMem
import Derived.Lib.Join
import Derived.Test.YtfepehjbcmkdjaaDoorG9Apart
import Derived.Lib.ItoaLen
set_option linter.unusedSimpArgs false
set_option linter.unusedVariables false
namespace Go.Proofs.YtfepehjbcmkdjaaDoor

/-! Decimal digits. -/
def dval (l : List UInt8) : Nat := l.foldl (fun s c => 10 * s + (c.toNat - 48)) 0
theorem dval_snoc (l : List UInt8) (c : UInt8) : dval (l ++ [c]) = 10 * dval l + (c.toNat - 48) := by simp [dval]
theorem dig_nat {u : Nat} (h : u < 10) : (UInt8.ofNat (48 + u)).toNat = 48 + u := by
  simp only [UInt8.toNat_ofNat']
  omega
theorem dec_step {u : Nat} (h : ¬ u < 10) : Lib.decDigits u = Lib.decDigits (u / 10) ++ [UInt8.ofNat (48 + u % 10)] := by
  rw [Lib.decDigits, dif_neg h]
theorem dval_dec (u : Nat) : dval (Lib.decDigits u) = u := by
  induction u using Nat.strongRecOn with
  | ind u ih =>
    by_cases h : u < 10
    · rw [Lib.decDigits_one h]
      simp only [dval, List.foldl_cons, List.foldl_nil, dig_nat h]
      omega
    · rw [dec_step h, dval_snoc, ih (u / 10) (by omega), dig_nat (by omega)]
      omega
theorem dec_inj {u v : Nat} (h : Lib.decDigits u = Lib.decDigits v) : u = v := by rw [← dval_dec u, h, dval_dec]
theorem dec_ne (u : Nat) : Lib.decDigits u ≠ [] := by
  by_cases h : u < 10
  · rw [Lib.decDigits_one h]; simp
  · rw [dec_step h]; simp
theorem dec_plain (u : Nat) : ∀ c ∈ Lib.decDigits u, 48 ≤ c.toNat ∧ c.toNat ≤ 57 := by
  induction u using Nat.strongRecOn with
  | ind u ih =>
    intro c hc
    by_cases h : u < 10
    · rw [Lib.decDigits_one h] at hc
      obtain rfl := List.mem_singleton.1 hc
      rw [dig_nat h]; omega
    · rw [dec_step h] at hc
      rcases List.mem_append.1 hc with hc | hc
      · exact ih (u / 10) (by omega) c hc
      · obtain rfl := List.mem_singleton.1 hc
        rw [dig_nat (by omega)]; omega
theorem itoa_pos {n : Int} (h : 0 ≤ n) : Lib.itoa n = Lib.decDigits n.toNat := by
  obtain ⟨u, rfl⟩ := Int.eq_ofNat_of_zero_le h
  exact Lib.itoa_nonneg u
theorem itoa_inj {m n : Int} (hm : 0 ≤ m) (hn : 0 ≤ n) (h : Lib.itoa m = Lib.itoa n) : m = n := by
  rw [itoa_pos hm, itoa_pos hn] at h
  have := dec_inj h
  omega
def Sp (l : List UInt8) : Prop := ∀ c ∈ l, c.toNat ≠ 32
theorem itoa_sp {n : Int} (h : 0 ≤ n) : Sp (Lib.itoa n) := fun c hc => by
  rw [itoa_pos h] at hc
  have := dec_plain _ c hc
  omega
theorem itoa_ne {n : Int} (h : 0 ≤ n) : Lib.itoa n ≠ [] := by rw [itoa_pos h]; exact dec_ne _

/-! Texts joined by a space. -/
def Head (t : List UInt8) : Prop := t = [] ∨ ∃ r, t = 32 :: r
theorem cut_at : ∀ {x y t1 t2 : List UInt8}, Sp x → Sp y → Head t1 → Head t2 → x ++ t1 = y ++ t2 → x = y ∧ t1 = t2
  | [], [], _, _, _, _, _, _, h => ⟨rfl, h⟩
  | [], c :: y, t1, t2, _, hy, h1, _, h => by
    exfalso
    rcases h1 with rfl | ⟨r, rfl⟩
    · cases h
    · simp only [List.nil_append, List.cons_append, List.cons.injEq] at h
      exact hy c (List.mem_cons_self ..) (by rw [← h.1]; rfl)
  | c :: x, [], t1, t2, hx, _, _, h2, h => by
    exfalso
    rcases h2 with rfl | ⟨r, rfl⟩
    · cases h
    · simp only [List.nil_append, List.cons_append, List.cons.injEq] at h
      exact hx c (List.mem_cons_self ..) (by rw [h.1]; rfl)
  | c :: x, d :: y, t1, t2, hx, hy, h1, h2, h => by
    simp only [List.cons_append, List.cons.injEq] at h
    obtain ⟨e1, e2⟩ := cut_at (fun z hz => hx z (List.mem_cons_of_mem _ hz)) (fun z hz => hy z (List.mem_cons_of_mem _ hz)) h1 h2 h.2
    exact ⟨by rw [h.1, e1], e2⟩
theorem tail_head (r : List (List UInt8)) : Head (Lib.joinTail [32] r) := by
  cases r with
  | nil => exact Or.inl rfl
  | cons y r => exact Or.inr ⟨y ++ Lib.joinTail [32] r, by simp [Lib.joinTail]⟩
theorem tail_cons (y : List UInt8) (r : List (List UInt8)) : Lib.joinTail [32] (y :: r) = 32 :: (y ++ Lib.joinTail [32] r) := by simp [Lib.joinTail]
theorem tail_inj : ∀ {xs ys : List (List UInt8)}, (∀ x ∈ xs, Sp x) → (∀ y ∈ ys, Sp y) → Lib.joinTail [32] xs = Lib.joinTail [32] ys → xs = ys
  | [], [], _, _, _ => rfl
  | [], y :: ys, _, _, h => by rw [tail_cons] at h; cases h
  | x :: xs, [], _, _, h => by rw [tail_cons] at h; cases h
  | x :: xs, y :: ys, hx, hy, h => by
    rw [tail_cons, tail_cons] at h
    simp only [List.cons.injEq, true_and] at h
    obtain ⟨e1, e2⟩ := cut_at (hx x (List.mem_cons_self ..)) (hy y (List.mem_cons_self ..)) (tail_head _) (tail_head _) h
    rw [e1, tail_inj (fun z hz => hx z (List.mem_cons_of_mem _ hz)) (fun z hz => hy z (List.mem_cons_of_mem _ hz)) e2]
theorem join_inj {x y : List UInt8} {xs ys : List (List UInt8)} (hx : ∀ z ∈ x :: xs, Sp z) (hy : ∀ z ∈ y :: ys, Sp z) (h : Lib.join (x :: xs) [32] = Lib.join (y :: ys) [32]) : x :: xs = y :: ys := by
  rw [Lib.join_cons, Lib.join_cons] at h
  obtain ⟨e1, e2⟩ := cut_at (hx x (List.mem_cons_self ..)) (hy y (List.mem_cons_self ..)) (tail_head _) (tail_head _) h
  rw [e1, tail_inj (fun z hz => hx z (List.mem_cons_of_mem _ hz)) (fun z hz => hy z (List.mem_cons_of_mem _ hz)) e2]

/-! Events. -/
structure Ev where
  k : Int
  t : Int
  a : Int
  b : Int
  nm : List UInt8
  ot : List UInt8
def word (k : Int) : List UInt8 :=
  if k = 1 then [109, 97, 100, 101] else if k = 2 then [117, 115, 101] else if k = 3 then [116, 101, 115, 116] else if k = 4 then [102, 97, 117, 108, 116] else
  if k = 5 then [112, 117, 116] else if k = 6 then [116, 97, 107, 101] else if k = 7 then [114, 101, 99, 97, 108, 108] else if k = 8 then [99, 108, 101, 97, 114] else [115, 99, 114, 97, 112]
/-- What a valid event is, as far as the law wants it. -/
structure EvOk (e : Ev) : Prop where
  k : 1 ≤ e.k ∧ e.k ≤ 9
  t : 0 ≤ e.t ∧ e.t ≤ 1099511627776
  a : 0 ≤ e.a ∧ e.a ≤ 1099511627776
  b : 0 ≤ e.b ∧ e.b ≤ 1099511627776
  a0 : 5 ≤ e.k → e.a = 0
  b0 : 3 ≤ e.k → e.b = 0
  nm : Sp e.nm
  ot : Sp e.ot
  nm0 : (e.k = 2 ∨ e.k = 3 ∨ e.k = 4 ∨ e.k = 9) → e.nm = []
  nm1 : (e.k = 1 ∨ e.k = 5 ∨ e.k = 6 ∨ e.k = 7 ∨ e.k = 8) → e.nm ≠ []
  ot0 : (e.k ≠ 5 ∧ e.k ≠ 6) → e.ot = []
  ot1 : (e.k = 5 ∨ e.k = 6) → e.ot ≠ []
/-- The words of its text. -/
def parts (e : Ev) : List (List UInt8) :=
  Lib.itoa e.t :: ((if e.k ≤ 2 then [Lib.itoa e.a, Lib.itoa e.b] else if e.k ≤ 4 then [Lib.itoa e.a] else []) ++ (if e.nm = [] then [] else [e.nm]) ++ (if e.ot = [] then [] else [e.ot]))
def textE (e : Ev) : List UInt8 := Lib.join (word e.k :: parts e) [32]
theorem word_sp (k : Int) : Sp (word k) := by
  unfold word Sp
  repeat' split
  all_goals decide
theorem word_inj {k l : Int} (hk : 1 ≤ k ∧ k ≤ 9) (hl : 1 ≤ l ∧ l ≤ 9) (h : word k = word l) : k = l := by
  have h1 : k = 1 ∨ k = 2 ∨ k = 3 ∨ k = 4 ∨ k = 5 ∨ k = 6 ∨ k = 7 ∨ k = 8 ∨ k = 9 := by omega
  have h2 : l = 1 ∨ l = 2 ∨ l = 3 ∨ l = 4 ∨ l = 5 ∨ l = 6 ∨ l = 7 ∨ l = 8 ∨ l = 9 := by omega
  rcases h1 with rfl | rfl | rfl | rfl | rfl | rfl | rfl | rfl | rfl <;> rcases h2 with rfl | rfl | rfl | rfl | rfl | rfl | rfl | rfl | rfl <;> first | rfl | (exfalso; revert h; decide)
theorem parts_sp {e : Ev} (h : EvOk e) : ∀ z ∈ word e.k :: parts e, Sp z := by
  intro z hz
  rcases List.mem_cons.1 hz with rfl | hz
  · exact word_sp _
  unfold parts at hz
  rcases List.mem_cons.1 hz with rfl | hz
  · exact itoa_sp h.t.1
  rcases List.mem_append.1 hz with hz | hz
  · rcases List.mem_append.1 hz with hz | hz
    · split at hz
      · simp only [List.mem_cons, List.not_mem_nil, or_false] at hz
        rcases hz with rfl | rfl
        · exact itoa_sp h.a.1
        · exact itoa_sp h.b.1
      · split at hz
        · obtain rfl := List.mem_singleton.1 hz; exact itoa_sp h.a.1
        · cases hz
    · split at hz
      · cases hz
      · obtain rfl := List.mem_singleton.1 hz; exact h.nm
  · split at hz
    · cases hz
    · obtain rfl := List.mem_singleton.1 hz; exact h.ot
theorem text_inj {e f : Ev} (he : EvOk e) (hf : EvOk f) (h : textE e = textE f) : e = f := by
  have h1 := join_inj (parts_sp he) (parts_sp hf) h
  simp only [List.cons.injEq] at h1
  obtain ⟨h1, h2⟩ := h1
  have hk := word_inj he.k hf.k h1
  obtain ⟨k, t, a, b, nm, ot⟩ := e
  obtain ⟨k', t', a', b', nm', ot'⟩ := f
  dsimp only at hk
  subst hk
  obtain ⟨k1, t1, a1, b1, a01, b01, nm1, ot1, nm01, nm11, ot01, ot11⟩ := he
  obtain ⟨k2, t2, a2, b2, a02, b02, nm2, ot2, nm02, nm12, ot02, ot12⟩ := hf
  dsimp only at *
  unfold parts at h2
  dsimp only at h2
  simp only [List.cons.injEq] at h2
  obtain ⟨e1, h2⟩ := h2
  have et := itoa_inj t1.1 t2.1 e1
  subst et
  have hc : k = 1 ∨ k = 2 ∨ k = 3 ∨ k = 4 ∨ k = 5 ∨ k = 6 ∨ k = 7 ∨ k = 8 ∨ k = 9 := by omega
  rcases hc with rfl | rfl | rfl | rfl | rfl | rfl | rfl | rfl | rfl
  all_goals simp at a01 b01 nm01 nm11 ot01 ot11 a02 b02 nm02 nm12 ot02 ot12 h2
  all_goals (try subst a01); (try subst a02); (try subst b01); (try subst b02); (try subst nm01); (try subst nm02); (try subst ot01); (try subst ot02)
  all_goals simp_all
  all_goals first | exact itoa_inj (by omega) (by omega) (by assumption) | exact ⟨itoa_inj (by omega) (by omega) h2.1, itoa_inj (by omega) (by omega) h2.2⟩ | exact ⟨itoa_inj (by omega) (by omega) h2.1, itoa_inj (by omega) (by omega) h2.2.1⟩
end Go.Proofs.YtfepehjbcmkdjaaDoor

/-
  Text at each kind of events that Check lets pass.
-/
set_option linter.unusedSimpArgs false
set_option linter.unusedVariables false
namespace Go.Proofs.YtfepehjbcmkdjaaDoor
open Sx Go.RowKit
/-- An event that Check refuses. -/
def chkE (k t a b : Int) (nm ot : ByteArray) : Bool := match k with
  | 1 => chkB 1 4294967296 32 t a b (nameB nm) ((ot.toList == []))
  | 2 => chkB 0 1099511627776 1099511627776 t a b ((nm.toList == [])) ((ot.toList == []))
  | 3 => chkB 0 4294967296 0 t a b ((nm.toList == [])) ((ot.toList == []))
  | 4 => chkB 1 12 0 t a b ((nm.toList == [])) ((ot.toList == []))
  | 5 => chkB 0 0 0 t a b (modB nm) (nameB ot)
  | 6 => chkB 0 0 0 t a b (modB nm) (nameB ot)
  | 7 => chkB 0 0 0 t a b (nameB nm) ((ot.toList == []))
  | 8 => chkB 0 0 0 t a b (nameB nm) ((ot.toList == []))
  | 9 => chkB 0 0 0 t a b ((nm.toList == [])) ((ot.toList == []))
  | _ => true
def okE (k t a b : Int) (nm ot : ByteArray) : Bool := decide (1 ≤ k ∧ k ≤ 9 ∧ nm.size ≤ 1000000 ∧ ot.size ≤ 1000000) && !chkE k t a b nm ot
theorem Check_all (k t a b : Int) (nm ot : ByteArray) (w : World) (hG : Glob0 w) (hk : 1 ≤ k ∧ k ≤ 9) (h1 : nm.size ≤ 1000000) (h2 : ot.size ≤ 1000000) :
    Calls Tryd.prog 26 #[.agg #[.int .i64 k, .int .i64 t, .int .i64 a, .int .i64 b, .string nm, .string ot]] w fun e w' => e = .returned (.int .i64 (bif chkE k t a b nm ot then 2 else 0)) ∧ Below w.heap.size w w' := by
  have hc : k = 1 ∨ k = 2 ∨ k = 3 ∨ k = 4 ∨ k = 5 ∨ k = 6 ∨ k = 7 ∨ k = 8 ∨ k = 9 := by omega
  rcases hc with rfl | rfl | rfl | rfl | rfl | rfl | rfl | rfl | rfl
  · exact Check_at1 t a b nm ot w hG h1 h2
  · exact Check_at2 t a b nm ot w hG h1 h2
  · exact Check_at3 t a b nm ot w hG h1 h2
  · exact Check_at4 t a b nm ot w hG h1 h2
  · exact Check_at5 t a b nm ot w hG h1 h2
  · exact Check_at6 t a b nm ot w hG h1 h2
  · exact Check_at7 t a b nm ot w hG h1 h2
  · exact Check_at8 t a b nm ot w hG h1 h2
  · exact Check_at9 t a b nm ot w hG h1 h2
/-- The rule of Check, where it lets an event pass. -/
def chRule : List Sv → St → Tree FLeaf
  | [.agg [.i .i64 k _, .i .i64 t _, .i .i64 a _, .i .i64 b _, .s nm _, .s ot _]], σ => .must (okE k t a b nm ot) (.leaf (.one (.i .i64 0 true), σ))
  | _, _ => .fail
theorem chRule_ok {args : List Sv} {σ : St} {y : FLeaf} (hy : (chRule args σ).At y) : FunOk Tryd.prog 26 args σ y.1 y.2 := by
  unfold chRule at hy
  split at hy
  · rename_i k l0 t l1 a l2 b l3 nm l4 ot l5
    obtain ⟨h1, h2⟩ := hy
    obtain rfl : _ = y := h2
    unfold okE at h1
    rw [Bool.and_eq_true] at h1
    obtain ⟨h1, h3⟩ := h1
    obtain ⟨k1, k2, k3, k4⟩ := of_decide_eq_true h1
    have h4 : chkE k t a b nm ot = false := by simpa using h3
    exact FunOk.of_anyG rfl fun e w hG => by
      have h := Check_all k t a b nm ot w hG ⟨k1, k2⟩ k3 k4
      rw [h4] at h
      exact h
  · exact hy.elim
/-- The rule of empty, told by the list. -/
def em2 : List Sv → St → Tree FLeaf
  | [.one (.s v l)], σ => .leaf (.one (.b v.data.toList.isEmpty l), σ)
  | _, _ => .fail
theorem em2_ok {args : List Sv} {σ : St} {y : FLeaf} (hy : (em2 args σ).At y) : FunOk Tryd.prog 32 args σ y.1 y.2 := by
  unfold em2 at hy
  split at hy
  · rename_i v l
    obtain rfl : _ = y := hy
    refine FunOk.of_any rfl fun e w => ?_
    have h := empty_any v w
    have e2 : (v.toList == []) = v.data.toList.isEmpty := by
      rw [Lib.toList_data]
      cases v.data.toList <;> rfl
    rw [e2] at h
    exact h
  · exact hy.elim
def itH (n : Int) : UInt8 := (Lib.itoa n).headD 0
def itT (n : Int) : List UInt8 := (Lib.itoa n).tail
theorem it_is (n : Int) : itH n :: itT n = Lib.itoa n := by
  have h : Lib.itoa n ≠ [] := by
    unfold Lib.itoa
    split
    · simp
    · exact dec_ne _
  unfold itH itT
  cases h2 : Lib.itoa n with
  | nil => exact absurd h2 h
  | cons c l => rfl
/-- The rule of FormatInt, its text split. -/
def fm2 : List Sv → St → Tree FLeaf
  | [.one (.i .i64 n _), .one (.i .i64 10 _)], σ => .must (decide (-9223372036854775808 ≤ n ∧ n ≤ 9223372036854775807)) (.leaf (.one (.s ⟨(itH n :: itT n).toArray⟩ true), σ))
  | _, _ => .fail
theorem fm2_ok {args : List Sv} {σ : St} {y : FLeaf} (hy : (fm2 args σ).At y) : FunOk Tryd.prog 29 args σ y.1 y.2 := by
  unfold fm2 at hy
  split at hy
  · rename_i n l l2
    obtain ⟨h1, h2⟩ := hy
    obtain rfl : _ = y := h2
    obtain ⟨a, b⟩ := of_decide_eq_true h1
    refine FunOk.of_anyG rfl fun e w hG => ?_
    have h := fmt_any n a b w hG.1
    rw [← it_is] at h
    exact h
  · exact hy.elim
def spT (f : FuncId) : Option (List Sv → St → Tree FLeaf) := match Nat.beq f 26 with
  | true => some chRule
  | false => match Nat.beq f 32 with
    | true => some em2
    | false => match Nat.beq f 29 with
      | true => some fm2
      | false => match Nat.beq f 30 with
        | true => some jnRule
        | false => none
theorem spT_ok : SpOk Tryd.prog spT := by
  intro f g hf args σ y hy
  unfold spT at hf
  split at hf
  · rename_i h; obtain rfl := beq_iff'.1 h
    obtain rfl := Option.some.inj hf; exact chRule_ok hy
  · split at hf
    · rename_i h; obtain rfl := beq_iff'.1 h
      obtain rfl := Option.some.inj hf; exact em2_ok hy
    · split at hf
      · rename_i h; obtain rfl := beq_iff'.1 h
        obtain rfl := Option.some.inj hf; exact fm2_ok hy
      · split at hf
        · rename_i h; obtain rfl := beq_iff'.1 h
          obtain rfl := Option.some.inj hf; exact jnRule_ok hy
        · cases hf
/-- What is demanded, and what is handed back. -/
def valF (T : Tree FLeaf) : Option (List Bool × Sv) := (peelF T).map fun r => (r.1, r.2.1)
theorem valF_at {T : Tree FLeaf} {l : List Bool} {v : Sv} (h : valF T = some (l, v)) (hl : ∀ b ∈ l, b = true) : ∃ y : FLeaf, T.At y ∧ y.1 = v := by
  unfold valF at h
  obtain ⟨⟨l2, y⟩, h1, h2⟩ := Option.map_eq_some_iff.1 h
  obtain ⟨rfl, rfl⟩ := Prod.mk.inj h2
  exact ⟨y, peelF_at h1 hl, rfl⟩
end Go.Proofs.YtfepehjbcmkdjaaDoor

/-
  Text at each kind of events that Check lets pass: evaluated.
-/
set_option linter.unusedSimpArgs false
set_option linter.unusedVariables false
namespace Go.Proofs.YtfepehjbcmkdjaaDoor
open Sx Go.RowKit
def fmD (n : Int) : Bool := decide (-9223372036854775808 ≤ n ∧ n ≤ 9223372036854775807)
def jnD (l : List (List UInt8)) : Bool := decide (l.length ≤ 140737488355328 ∧ (Lib.join l [32]).length ≤ 140737488355328)
def evT (k t a b : Int) (nm ot : ByteArray) : List Sv := [.agg [.i .i64 k true, .i .i64 t false, .i .i64 a false, .i .i64 b false, .s nm true, .s ot true]]
def txV (l : List (List UInt8)) : Sv := .tup [(false, [.s ⟨(Lib.join l [32]).toArray⟩ true]), (false, [.i .i64 0 true])]
theorem tx_any {k t a b : Int} {nm ot : ByteArray} {l : List (List UInt8)} {ds : List Bool} (h : valF (evFn tbl [31] spT 300 12 20 (evT k t a b nm ot) st0) = some (ds, txV l)) (hd : ∀ x ∈ ds, x = true) (w : World) (hG : Glob0 w) :
    Calls Tryd.prog 20 #[.agg #[.int .i64 k, .int .i64 t, .int .i64 a, .int .i64 b, .string nm, .string ot]] w fun e w' => e = .returned (.tuple #[.string ⟨(Lib.join l [32]).toArray⟩, .int .i64 0]) ∧ Below w.heap.size w w' := by
  obtain ⟨y, h1, h2⟩ := valF_at h hd
  have h3 := (evFn_at tbl_ok tbl_any spT_ok h1).any (fun x hx => by
    obtain rfl := List.mem_singleton.1 hx
    rfl) (by rw [h2]; rfl) w hG
  rw [h2] at h3
  exact h3
set_option maxRecDepth 100000 in
theorem tx_eval1 (t a b : Int) (x : UInt8) (nm : List UInt8) : valF (evFn tbl [31] spT 300 12 20 (evT 1 t a b ⟨(x :: nm).toArray⟩ ⟨#[]⟩) st0) =
    some ([okE 1 t a b ⟨(x :: nm).toArray⟩ ⟨#[]⟩, fmD t, fmD a, fmD b, jnD [word 1, itH t :: itT t, itH a :: itT a, itH b :: itT b, x :: nm]], txV [word 1, itH t :: itT t, itH a :: itT a, itH b :: itT b, x :: nm]) := by kernel_rfl
set_option maxRecDepth 100000 in
theorem tx_eval2 (t a b : Int) : valF (evFn tbl [31] spT 300 12 20 (evT 2 t a b ⟨#[]⟩ ⟨#[]⟩) st0) =
    some ([okE 2 t a b ⟨#[]⟩ ⟨#[]⟩, fmD t, fmD a, fmD b, jnD [word 2, itH t :: itT t, itH a :: itT a, itH b :: itT b]], txV [word 2, itH t :: itT t, itH a :: itT a, itH b :: itT b]) := by kernel_rfl
set_option maxRecDepth 100000 in
theorem tx_eval3 (t a b : Int) : valF (evFn tbl [31] spT 300 12 20 (evT 3 t a b ⟨#[]⟩ ⟨#[]⟩) st0) =
    some ([okE 3 t a b ⟨#[]⟩ ⟨#[]⟩, fmD t, fmD a, jnD [word 3, itH t :: itT t, itH a :: itT a]], txV [word 3, itH t :: itT t, itH a :: itT a]) := by kernel_rfl
set_option maxRecDepth 100000 in
theorem tx_eval4 (t a b : Int) : valF (evFn tbl [31] spT 300 12 20 (evT 4 t a b ⟨#[]⟩ ⟨#[]⟩) st0) =
    some ([okE 4 t a b ⟨#[]⟩ ⟨#[]⟩, fmD t, fmD a, jnD [word 4, itH t :: itT t, itH a :: itT a]], txV [word 4, itH t :: itT t, itH a :: itT a]) := by kernel_rfl
set_option maxRecDepth 100000 in
theorem tx_eval5 (t a b : Int) (x : UInt8) (nm : List UInt8) (y : UInt8) (ot : List UInt8) : valF (evFn tbl [31] spT 300 12 20 (evT 5 t a b ⟨(x :: nm).toArray⟩ ⟨(y :: ot).toArray⟩) st0) =
    some ([okE 5 t a b ⟨(x :: nm).toArray⟩ ⟨(y :: ot).toArray⟩, fmD t, jnD [word 5, itH t :: itT t, x :: nm, y :: ot]], txV [word 5, itH t :: itT t, x :: nm, y :: ot]) := by kernel_rfl
set_option maxRecDepth 100000 in
theorem tx_eval6 (t a b : Int) (x : UInt8) (nm : List UInt8) (y : UInt8) (ot : List UInt8) : valF (evFn tbl [31] spT 300 12 20 (evT 6 t a b ⟨(x :: nm).toArray⟩ ⟨(y :: ot).toArray⟩) st0) =
    some ([okE 6 t a b ⟨(x :: nm).toArray⟩ ⟨(y :: ot).toArray⟩, fmD t, jnD [word 6, itH t :: itT t, x :: nm, y :: ot]], txV [word 6, itH t :: itT t, x :: nm, y :: ot]) := by kernel_rfl
set_option maxRecDepth 100000 in
theorem tx_eval7 (t a b : Int) (x : UInt8) (nm : List UInt8) : valF (evFn tbl [31] spT 300 12 20 (evT 7 t a b ⟨(x :: nm).toArray⟩ ⟨#[]⟩) st0) =
    some ([okE 7 t a b ⟨(x :: nm).toArray⟩ ⟨#[]⟩, fmD t, jnD [word 7, itH t :: itT t, x :: nm]], txV [word 7, itH t :: itT t, x :: nm]) := by kernel_rfl
set_option maxRecDepth 100000 in
theorem tx_eval8 (t a b : Int) (x : UInt8) (nm : List UInt8) : valF (evFn tbl [31] spT 300 12 20 (evT 8 t a b ⟨(x :: nm).toArray⟩ ⟨#[]⟩) st0) =
    some ([okE 8 t a b ⟨(x :: nm).toArray⟩ ⟨#[]⟩, fmD t, jnD [word 8, itH t :: itT t, x :: nm]], txV [word 8, itH t :: itT t, x :: nm]) := by kernel_rfl
set_option maxRecDepth 100000 in
theorem tx_eval9 (t a b : Int) : valF (evFn tbl [31] spT 300 12 20 (evT 9 t a b ⟨#[]⟩ ⟨#[]⟩) st0) =
    some ([okE 9 t a b ⟨#[]⟩ ⟨#[]⟩, fmD t, jnD [word 9, itH t :: itT t]], txV [word 9, itH t :: itT t]) := by kernel_rfl
end Go.Proofs.YtfepehjbcmkdjaaDoor

/-
  Text of a valid event is the text of the plain law.
-/
set_option linter.unusedSimpArgs false
set_option linter.unusedVariables false
namespace Go.Proofs.YtfepehjbcmkdjaaDoor
open Sx Go.RowKit
theorem nameB_sp {v : ByteArray} (h : nameB v = true) : Sp v.data.toList ∧ v.data.toList ≠ [] := by
  unfold nameB at h
  rw [Bool.and_eq_true] at h
  obtain ⟨h1, h2⟩ := h
  have h3 := of_decide_eq_true h1
  refine ⟨fun c hc => ?_, fun e => ?_⟩
  · have := List.all_eq_true.1 h2 c hc
    unfold okc at this
    have := of_decide_eq_true this
    omega
  · rw [Lib.size_eq, e] at h3
    simp at h3
theorem modB_sp {s : ByteArray} (h : modB s = true) : Sp s.data.toList ∧ s.data.toList ≠ [] := by
  unfold modB at h
  rw [Bool.and_eq_true] at h
  obtain ⟨h1, h2⟩ := h
  have hc : 0 ≤ colon s := by
    by_cases hc : 0 ≤ colon s
    · exact hc
    · unfold cutS at h1; rw [if_neg hc] at h1; cases h1
  have e : cutS s = (s.extract 0 (colon s).toNat, s.extract ((colon s).toNat + 1) s.size, true) := by unfold cutS; rw [if_pos hc]
  rw [e] at h2
  obtain ⟨i, hi⟩ := Int.eq_ofNat_of_zero_le hc
  have hat := (Lib.indexByte_some (l := s.data.toList) (c := 58) (o := i) hi).1
  rw [hi] at h2
  simp only [Int.toNat_natCast] at h2
  have ea : (s.extract 0 i).data.toList = s.data.toList.take i := by rw [Lib.extract_eq]; simp
  have eb : (s.extract (i + 1) s.size).data.toList = s.data.toList.drop (i + 1) := by
    rw [Lib.extract_eq]
    simp only [List.toList_toArray]
    exact List.take_of_length_le (by rw [List.length_drop, ← Lib.size_eq]; exact Nat.le_refl _)
  cases hn : numS (s.extract (i + 1) s.size) with
  | none => rw [hn] at h2; cases h2
  | some v =>
    rw [hn] at h2
    simp only [Bool.and_eq_true, decide_eq_true_eq] at h2
    obtain ⟨⟨⟨v1, v2⟩, h3⟩, h4⟩ := h2
    have h5 := (nameB_sp h4).1
    rw [ea] at h5
    have h6 : Lib.itoa v = s.data.toList.drop (i + 1) := by
      have := eq_of_beq h3
      rw [this, Lib.toList_data, eb]
    have hil : i < s.data.toList.length := (List.getElem?_eq_some_iff.1 hat).1
    have hat2 : s.data.toList[i] = 58 := (List.getElem?_eq_some_iff.1 hat).2
    have hs : s.data.toList = s.data.toList.take i ++ 58 :: s.data.toList.drop (i + 1) := by
      conv => lhs; rw [← List.take_append_drop i s.data.toList]
      rw [List.drop_eq_getElem_cons hil, hat2]
    refine ⟨fun c hc => ?_, fun e => by rw [e] at hil; simp at hil⟩
    rw [hs] at hc
    rcases List.mem_append.1 hc with hc | hc
    · exact h5 c hc
    · rcases List.mem_cons.1 hc with rfl | hc
      · decide
      · rw [← h6] at hc; exact itoa_sp v1 c hc
theorem chkB_no {least fa fb t a b : Int} {p q : Bool} (h : chkB least fa fb t a b p q = false) : (0 ≤ t ∧ t ≤ 1099511627776) ∧ (least ≤ a ∧ a ≤ fa) ∧ (0 ≤ b ∧ b ≤ fb) ∧ p = true ∧ q = true := by
  unfold chkB at h
  by_cases h1 : t ≥ 0
  · by_cases h2 : t ≤ 1099511627776
    · by_cases h3 : a < least
      · simp [h1, h2, h3] at h
      · by_cases h4 : a > fa
        · simp [h1, h2, h3, h4] at h
        · by_cases h5 : b < 0
          · simp [h1, h2, h3, h4, h5] at h
          · by_cases h6 : b > fb
            · simp [h1, h2, h3, h4, h5, h6] at h
            · cases p <;> cases q <;> simp [h1, h2, h3, h4, h5, h6] at h
              exact ⟨⟨h1, h2⟩, ⟨by omega, by omega⟩, ⟨by omega, by omega⟩, rfl, rfl⟩
    · simp [h1, h2] at h
  · simp [h1] at h
def evL (k t a b : Int) (nm ot : ByteArray) : Ev := ⟨k, t, a, b, nm.data.toList, ot.data.toList⟩
theorem emp_nil {v : ByteArray} (h : (v.toList == []) = true) : v.data.toList = [] := by
  rw [Lib.toList_data] at h
  exact eq_of_beq h
theorem sp_nil : Sp [] := fun c hc => by cases hc
theorem okE_ev {k t a b : Int} {nm ot : ByteArray} (h : okE k t a b nm ot = true) : EvOk (evL k t a b nm ot) ∧ nm.size ≤ 1000000 ∧ ot.size ≤ 1000000 := by
  unfold okE at h
  rw [Bool.and_eq_true] at h
  obtain ⟨h1, h2⟩ := h
  obtain ⟨k1, k2, k3, k4⟩ := of_decide_eq_true h1
  have h3 : chkE k t a b nm ot = false := by simpa using h2
  refine ⟨?_, k3, k4⟩
  have hc : k = 1 ∨ k = 2 ∨ k = 3 ∨ k = 4 ∨ k = 5 ∨ k = 6 ∨ k = 7 ∨ k = 8 ∨ k = 9 := by omega
  unfold evL
  rcases hc with rfl | rfl | rfl | rfl | rfl | rfl | rfl | rfl | rfl
  · obtain ⟨q1, q2, q3, q4, q5⟩ := chkB_no h3
    obtain ⟨n1, n2⟩ := nameB_sp q4; have n3 := emp_nil q5; rw [n3]; refine ⟨?_, q1, ?_, ?_, ?_, ?_, n1, sp_nil, ?_, ?_, ?_, ?_⟩
    all_goals dsimp only
    all_goals first | (constructor <;> omega) | (intro h; omega) | (intro _; assumption) | (intro _; rfl)
  · obtain ⟨q1, q2, q3, q4, q5⟩ := chkB_no h3
    have n1 := emp_nil q4; have n3 := emp_nil q5; rw [n1, n3]; refine ⟨?_, q1, ?_, ?_, ?_, ?_, sp_nil, sp_nil, ?_, ?_, ?_, ?_⟩
    all_goals dsimp only
    all_goals first | (constructor <;> omega) | (intro h; omega) | (intro _; assumption) | (intro _; rfl)
  · obtain ⟨q1, q2, q3, q4, q5⟩ := chkB_no h3
    have n1 := emp_nil q4; have n3 := emp_nil q5; rw [n1, n3]; refine ⟨?_, q1, ?_, ?_, ?_, ?_, sp_nil, sp_nil, ?_, ?_, ?_, ?_⟩
    all_goals dsimp only
    all_goals first | (constructor <;> omega) | (intro h; omega) | (intro _; assumption) | (intro _; rfl)
  · obtain ⟨q1, q2, q3, q4, q5⟩ := chkB_no h3
    have n1 := emp_nil q4; have n3 := emp_nil q5; rw [n1, n3]; refine ⟨?_, q1, ?_, ?_, ?_, ?_, sp_nil, sp_nil, ?_, ?_, ?_, ?_⟩
    all_goals dsimp only
    all_goals first | (constructor <;> omega) | (intro h; omega) | (intro _; assumption) | (intro _; rfl)
  · obtain ⟨q1, q2, q3, q4, q5⟩ := chkB_no h3
    obtain ⟨n1, n2⟩ := modB_sp q4; obtain ⟨n3, n4⟩ := nameB_sp q5; refine ⟨?_, q1, ?_, ?_, ?_, ?_, n1, n3, ?_, ?_, ?_, ?_⟩
    all_goals dsimp only
    all_goals first | (constructor <;> omega) | (intro h; omega) | (intro _; assumption) | (intro _; rfl)
  · obtain ⟨q1, q2, q3, q4, q5⟩ := chkB_no h3
    obtain ⟨n1, n2⟩ := modB_sp q4; obtain ⟨n3, n4⟩ := nameB_sp q5; refine ⟨?_, q1, ?_, ?_, ?_, ?_, n1, n3, ?_, ?_, ?_, ?_⟩
    all_goals dsimp only
    all_goals first | (constructor <;> omega) | (intro h; omega) | (intro _; assumption) | (intro _; rfl)
  · obtain ⟨q1, q2, q3, q4, q5⟩ := chkB_no h3
    obtain ⟨n1, n2⟩ := nameB_sp q4; have n3 := emp_nil q5; rw [n3]; refine ⟨?_, q1, ?_, ?_, ?_, ?_, n1, sp_nil, ?_, ?_, ?_, ?_⟩
    all_goals dsimp only
    all_goals first | (constructor <;> omega) | (intro h; omega) | (intro _; assumption) | (intro _; rfl)
  · obtain ⟨q1, q2, q3, q4, q5⟩ := chkB_no h3
    obtain ⟨n1, n2⟩ := nameB_sp q4; have n3 := emp_nil q5; rw [n3]; refine ⟨?_, q1, ?_, ?_, ?_, ?_, n1, sp_nil, ?_, ?_, ?_, ?_⟩
    all_goals dsimp only
    all_goals first | (constructor <;> omega) | (intro h; omega) | (intro _; assumption) | (intro _; rfl)
  · obtain ⟨q1, q2, q3, q4, q5⟩ := chkB_no h3
    have n1 := emp_nil q4; have n3 := emp_nil q5; rw [n1, n3]; refine ⟨?_, q1, ?_, ?_, ?_, ?_, sp_nil, sp_nil, ?_, ?_, ?_, ?_⟩
    all_goals dsimp only
    all_goals first | (constructor <;> omega) | (intro h; omega) | (intro _; assumption) | (intro _; rfl)
end Go.Proofs.YtfepehjbcmkdjaaDoor

/-
  Text of a valid event.
-/
set_option linter.unusedSimpArgs false
set_option linter.unusedVariables false
namespace Go.Proofs.YtfepehjbcmkdjaaDoor
open Sx Go.RowKit
theorem ba_nil {v : ByteArray} (h : v.data.toList = []) : v = ⟨#[]⟩ := by
  obtain ⟨⟨l⟩⟩ := v
  have h' : l = [] := h
  rw [h']
theorem ba_cons {v : ByteArray} (h : v.data.toList ≠ []) : ∃ x l, v = ⟨(x :: l).toArray⟩ := by
  obtain ⟨⟨l⟩⟩ := v
  cases l with
  | nil => exact absurd rfl h
  | cons x l => exact ⟨x, l, rfl⟩
theorem tail_len : ∀ {l : List (List UInt8)}, (∀ z ∈ l, z.length ≤ 1000000) → (Lib.joinTail [32] l).length ≤ l.length * 1000001
  | [], _ => by simp [Lib.joinTail]
  | x :: l, h => by
    rw [tail_cons]
    have h1 := h x (List.mem_cons_self ..)
    have h2 := tail_len (fun z hz => h z (List.mem_cons_of_mem _ hz))
    simp only [List.length_cons, List.length_append]
    omega
theorem jnD_ok {x : List UInt8} {l : List (List UInt8)} (h : ∀ z ∈ x :: l, z.length ≤ 1000000) (hl : l.length ≤ 10) : jnD (x :: l) = true := by
  unfold jnD
  refine decide_eq_true ⟨by simp only [List.length_cons]; omega, ?_⟩
  rw [Lib.join_cons, List.length_append]
  have h1 := h x (List.mem_cons_self ..)
  have h2 := tail_len (fun z hz => h z (List.mem_cons_of_mem _ hz))
  omega
theorem it_len {n : Int} (h0 : 0 ≤ n) (h1 : n ≤ 1099511627776) : (itH n :: itT n).length ≤ 1000000 := by
  rw [it_is]
  exact Nat.le_trans (Lib.itoa_length_le n (by omega) (by omega)) (by decide)
theorem fmD_ok {n : Int} (h0 : 0 ≤ n) (h1 : n ≤ 1099511627776) : fmD n = true := decide_eq_true ⟨by omega, by omega⟩
theorem word_len (k : Int) : (word k).length ≤ 1000000 := by
  unfold word
  repeat' split
  all_goals decide
theorem Text_ok (k t a b : Int) (nm ot : ByteArray) (w : World) (hG : Glob0 w) (h : okE k t a b nm ot = true) :
    Calls Tryd.prog 20 #[.agg #[.int .i64 k, .int .i64 t, .int .i64 a, .int .i64 b, .string nm, .string ot]] w fun e w' => e = .returned (.tuple #[.string ⟨(textE (evL k t a b nm ot)).toArray⟩, .int .i64 0]) ∧ Below w.heap.size w w' := by
  obtain ⟨he, hn, ho⟩ := okE_ev h
  obtain ⟨q1, q2, q3, q4, -, -, -, -, n0, n1, o0, o1⟩ := he
  unfold evL at q1 q2 q3 q4 n0 n1 o0 o1 ⊢
  dsimp only at q1 q2 q3 q4 n0 n1 o0 o1
  have hc : k = 1 ∨ k = 2 ∨ k = 3 ∨ k = 4 ∨ k = 5 ∨ k = 6 ∨ k = 7 ∨ k = 8 ∨ k = 9 := by omega
  rcases hc with rfl | rfl | rfl | rfl | rfl | rfl | rfl | rfl | rfl
  · obtain ⟨x, l, rfl⟩ := ba_cons (n1 (by decide))
    obtain rfl := ba_nil (o0 (by decide))
    have hj : ∀ z ∈ [word 1, itH t :: itT t, itH a :: itT a, itH b :: itT b, x :: l], z.length ≤ 1000000 := by
      intro z hz
      simp only [List.mem_cons, List.not_mem_nil, or_false] at hz
      rcases hz with rfl | rfl | rfl | rfl | rfl
      · exact word_len _
      · exact it_len q2.1 q2.2
      · exact it_len q3.1 q3.2
      · exact it_len q4.1 q4.2
      · exact (by rw [Lib.size_eq] at hn; exact hn)
    have hx := tx_any (tx_eval1 t a b x l) (fun z hz => by
      simp only [List.mem_cons, List.not_mem_nil, or_false] at hz
      rcases hz with rfl | rfl | rfl | rfl | rfl
      · exact h
      · exact fmD_ok q2.1 q2.2
      · exact fmD_ok q3.1 q3.2
      · exact fmD_ok q4.1 q4.2
      · exact jnD_ok hj (by simp)) w hG
    have ht : textE ⟨1, t, a, b, (ByteArray.mk (x :: l).toArray).data.toList, (ByteArray.mk #[]).data.toList⟩ = Lib.join [word 1, itH t :: itT t, itH a :: itT a, itH b :: itT b, x :: l] [32] := by
      unfold textE parts
      simp [it_is]
    rw [ht]
    exact hx
  · obtain rfl := ba_nil (n0 (by decide))
    obtain rfl := ba_nil (o0 (by decide))
    have hj : ∀ z ∈ [word 2, itH t :: itT t, itH a :: itT a, itH b :: itT b], z.length ≤ 1000000 := by
      intro z hz
      simp only [List.mem_cons, List.not_mem_nil, or_false] at hz
      rcases hz with rfl | rfl | rfl | rfl
      · exact word_len _
      · exact it_len q2.1 q2.2
      · exact it_len q3.1 q3.2
      · exact it_len q4.1 q4.2
    have hx := tx_any (tx_eval2 t a b) (fun z hz => by
      simp only [List.mem_cons, List.not_mem_nil, or_false] at hz
      rcases hz with rfl | rfl | rfl | rfl | rfl
      · exact h
      · exact fmD_ok q2.1 q2.2
      · exact fmD_ok q3.1 q3.2
      · exact fmD_ok q4.1 q4.2
      · exact jnD_ok hj (by simp)) w hG
    have ht : textE ⟨2, t, a, b, (ByteArray.mk #[]).data.toList, (ByteArray.mk #[]).data.toList⟩ = Lib.join [word 2, itH t :: itT t, itH a :: itT a, itH b :: itT b] [32] := by
      unfold textE parts
      simp [it_is]
    rw [ht]
    exact hx
  · obtain rfl := ba_nil (n0 (by decide))
    obtain rfl := ba_nil (o0 (by decide))
    have hj : ∀ z ∈ [word 3, itH t :: itT t, itH a :: itT a], z.length ≤ 1000000 := by
      intro z hz
      simp only [List.mem_cons, List.not_mem_nil, or_false] at hz
      rcases hz with rfl | rfl | rfl
      · exact word_len _
      · exact it_len q2.1 q2.2
      · exact it_len q3.1 q3.2
    have hx := tx_any (tx_eval3 t a b) (fun z hz => by
      simp only [List.mem_cons, List.not_mem_nil, or_false] at hz
      rcases hz with rfl | rfl | rfl | rfl
      · exact h
      · exact fmD_ok q2.1 q2.2
      · exact fmD_ok q3.1 q3.2
      · exact jnD_ok hj (by simp)) w hG
    have ht : textE ⟨3, t, a, b, (ByteArray.mk #[]).data.toList, (ByteArray.mk #[]).data.toList⟩ = Lib.join [word 3, itH t :: itT t, itH a :: itT a] [32] := by
      unfold textE parts
      simp [it_is]
    rw [ht]
    exact hx
  · obtain rfl := ba_nil (n0 (by decide))
    obtain rfl := ba_nil (o0 (by decide))
    have hj : ∀ z ∈ [word 4, itH t :: itT t, itH a :: itT a], z.length ≤ 1000000 := by
      intro z hz
      simp only [List.mem_cons, List.not_mem_nil, or_false] at hz
      rcases hz with rfl | rfl | rfl
      · exact word_len _
      · exact it_len q2.1 q2.2
      · exact it_len q3.1 q3.2
    have hx := tx_any (tx_eval4 t a b) (fun z hz => by
      simp only [List.mem_cons, List.not_mem_nil, or_false] at hz
      rcases hz with rfl | rfl | rfl | rfl
      · exact h
      · exact fmD_ok q2.1 q2.2
      · exact fmD_ok q3.1 q3.2
      · exact jnD_ok hj (by simp)) w hG
    have ht : textE ⟨4, t, a, b, (ByteArray.mk #[]).data.toList, (ByteArray.mk #[]).data.toList⟩ = Lib.join [word 4, itH t :: itT t, itH a :: itT a] [32] := by
      unfold textE parts
      simp [it_is]
    rw [ht]
    exact hx
  · obtain ⟨x, l, rfl⟩ := ba_cons (n1 (by decide))
    obtain ⟨y, l2, rfl⟩ := ba_cons (o1 (by decide))
    have hj : ∀ z ∈ [word 5, itH t :: itT t, x :: l, y :: l2], z.length ≤ 1000000 := by
      intro z hz
      simp only [List.mem_cons, List.not_mem_nil, or_false] at hz
      rcases hz with rfl | rfl | rfl | rfl
      · exact word_len _
      · exact it_len q2.1 q2.2
      · exact (by rw [Lib.size_eq] at hn; exact hn)
      · exact (by rw [Lib.size_eq] at ho; exact ho)
    have hx := tx_any (tx_eval5 t a b x l y l2) (fun z hz => by
      simp only [List.mem_cons, List.not_mem_nil, or_false] at hz
      rcases hz with rfl | rfl | rfl
      · exact h
      · exact fmD_ok q2.1 q2.2
      · exact jnD_ok hj (by simp)) w hG
    have ht : textE ⟨5, t, a, b, (ByteArray.mk (x :: l).toArray).data.toList, (ByteArray.mk (y :: l2).toArray).data.toList⟩ = Lib.join [word 5, itH t :: itT t, x :: l, y :: l2] [32] := by
      unfold textE parts
      simp [it_is]
    rw [ht]
    exact hx
  · obtain ⟨x, l, rfl⟩ := ba_cons (n1 (by decide))
    obtain ⟨y, l2, rfl⟩ := ba_cons (o1 (by decide))
    have hj : ∀ z ∈ [word 6, itH t :: itT t, x :: l, y :: l2], z.length ≤ 1000000 := by
      intro z hz
      simp only [List.mem_cons, List.not_mem_nil, or_false] at hz
      rcases hz with rfl | rfl | rfl | rfl
      · exact word_len _
      · exact it_len q2.1 q2.2
      · exact (by rw [Lib.size_eq] at hn; exact hn)
      · exact (by rw [Lib.size_eq] at ho; exact ho)
    have hx := tx_any (tx_eval6 t a b x l y l2) (fun z hz => by
      simp only [List.mem_cons, List.not_mem_nil, or_false] at hz
      rcases hz with rfl | rfl | rfl
      · exact h
      · exact fmD_ok q2.1 q2.2
      · exact jnD_ok hj (by simp)) w hG
    have ht : textE ⟨6, t, a, b, (ByteArray.mk (x :: l).toArray).data.toList, (ByteArray.mk (y :: l2).toArray).data.toList⟩ = Lib.join [word 6, itH t :: itT t, x :: l, y :: l2] [32] := by
      unfold textE parts
      simp [it_is]
    rw [ht]
    exact hx
  · obtain ⟨x, l, rfl⟩ := ba_cons (n1 (by decide))
    obtain rfl := ba_nil (o0 (by decide))
    have hj : ∀ z ∈ [word 7, itH t :: itT t, x :: l], z.length ≤ 1000000 := by
      intro z hz
      simp only [List.mem_cons, List.not_mem_nil, or_false] at hz
      rcases hz with rfl | rfl | rfl
      · exact word_len _
      · exact it_len q2.1 q2.2
      · exact (by rw [Lib.size_eq] at hn; exact hn)
    have hx := tx_any (tx_eval7 t a b x l) (fun z hz => by
      simp only [List.mem_cons, List.not_mem_nil, or_false] at hz
      rcases hz with rfl | rfl | rfl
      · exact h
      · exact fmD_ok q2.1 q2.2
      · exact jnD_ok hj (by simp)) w hG
    have ht : textE ⟨7, t, a, b, (ByteArray.mk (x :: l).toArray).data.toList, (ByteArray.mk #[]).data.toList⟩ = Lib.join [word 7, itH t :: itT t, x :: l] [32] := by
      unfold textE parts
      simp [it_is]
    rw [ht]
    exact hx
  · obtain ⟨x, l, rfl⟩ := ba_cons (n1 (by decide))
    obtain rfl := ba_nil (o0 (by decide))
    have hj : ∀ z ∈ [word 8, itH t :: itT t, x :: l], z.length ≤ 1000000 := by
      intro z hz
      simp only [List.mem_cons, List.not_mem_nil, or_false] at hz
      rcases hz with rfl | rfl | rfl
      · exact word_len _
      · exact it_len q2.1 q2.2
      · exact (by rw [Lib.size_eq] at hn; exact hn)
    have hx := tx_any (tx_eval8 t a b x l) (fun z hz => by
      simp only [List.mem_cons, List.not_mem_nil, or_false] at hz
      rcases hz with rfl | rfl | rfl
      · exact h
      · exact fmD_ok q2.1 q2.2
      · exact jnD_ok hj (by simp)) w hG
    have ht : textE ⟨8, t, a, b, (ByteArray.mk (x :: l).toArray).data.toList, (ByteArray.mk #[]).data.toList⟩ = Lib.join [word 8, itH t :: itT t, x :: l] [32] := by
      unfold textE parts
      simp [it_is]
    rw [ht]
    exact hx
  · obtain rfl := ba_nil (n0 (by decide))
    obtain rfl := ba_nil (o0 (by decide))
    have hj : ∀ z ∈ [word 9, itH t :: itT t], z.length ≤ 1000000 := by
      intro z hz
      simp only [List.mem_cons, List.not_mem_nil, or_false] at hz
      rcases hz with rfl | rfl
      · exact word_len _
      · exact it_len q2.1 q2.2
    have hx := tx_any (tx_eval9 t a b) (fun z hz => by
      simp only [List.mem_cons, List.not_mem_nil, or_false] at hz
      rcases hz with rfl | rfl | rfl
      · exact h
      · exact fmD_ok q2.1 q2.2
      · exact jnD_ok hj (by simp)) w hG
    have ht : textE ⟨9, t, a, b, (ByteArray.mk #[]).data.toList, (ByteArray.mk #[]).data.toList⟩ = Lib.join [word 9, itH t :: itT t] [32] := by
      unfold textE parts
      simp [it_is]
    rw [ht]
    exact hx
end Go.Proofs.YtfepehjbcmkdjaaDoor

/-
  Events that Check refuses.
-/
set_option linter.unusedSimpArgs false
set_option linter.unusedVariables false
namespace Go.Proofs.YtfepehjbcmkdjaaDoor
open Sx Go.RowKit
/-- The first way of a test, where it is a leaf. -/
def brL : Tree FLeaf → Option (Bool × Sv)
  | .br b (.leaf y) _ => some (b, y.1)
  | _ => none
theorem brL_at {T : Tree FLeaf} {b : Bool} {v : Sv} (h : brL T = some (b, v)) (hb : b = true) : ∃ y : FLeaf, T.At y ∧ y.1 = v := by
  unfold brL at h
  split at h
  · rename_i b2 y f
    obtain ⟨rfl, rfl⟩ := Prod.mk.inj (Option.some.inj h)
    exact ⟨y, Or.inl ⟨hb, rfl⟩, rfl⟩
  · cases h
theorem brL_fun {P : Program} {tb : Tb} {wf : List FuncId} {sp : FuncId → Option (List Sv → St → Tree FLeaf)} {fuel d f : Nat} (hT : TbOk P tb) (hm : P.follows .mixedOrders = true) (hs : SpOk P sp) {args : List Sv} {b : Bool} {v : Sv}
    (h : brL (evFn tb wf sp fuel d f args st0) = some (b, v)) (hb : b = true) : ∃ y : FLeaf, y.1 = v ∧ FunOk P f args st0 y.1 y.2 := by
  obtain ⟨y, h1, h2⟩ := brL_at h hb
  exact ⟨y, h2, evFn_at hT hm hs h1⟩
theorem spNo_ok : SpOk Tryd.prog (fun _ => none) := fun f g hf => by cases hf
set_option maxRecDepth 100000 in
theorem form_eval (k : Int) : brL (evFn tbl [] (fun _ => none) 300 12 28 [.one (.i .i64 k false)] st0) = some ((bif decide (k < 1) then true else decide (k ≥ 10)), .one (.val (.pointer none))) := by kernel_rfl
theorem formOf_bad (k : Int) (h : k < 1 ∨ 10 ≤ k) (w : World) (hG : Glob0 w) : Calls Tryd.prog 28 #[.int .i64 k] w fun e w' => e = .returned (.pointer none) ∧ Below w.heap.size w w' := by
  obtain ⟨y, h2, h1⟩ := brL_fun tbl_ok tbl_any spNo_ok (form_eval k) (by
    rcases h with h | h
    · rw [decide_eq_true h]; rfl
    · by_cases h0 : k < 1
      · rw [decide_eq_true h0]; rfl
      · rw [decide_eq_false h0, decide_eq_true (show k ≥ 10 from h)]; rfl)
  have h3 := h1.any (fun x hx => by
    obtain rfl := List.mem_singleton.1 hx
    rfl) (by rw [h2]; rfl) w hG
  rw [h2] at h3
  exact h3
/-- The rule of formOf, where there is no form. -/
def foRule : List Sv → St → Tree FLeaf
  | [.one (.i .i64 k _)], σ => .must (decide (k < 1 ∨ 10 ≤ k)) (.leaf (.one (.val (.pointer none)), σ))
  | _, _ => .fail
theorem foRule_ok {args : List Sv} {σ : St} {y : FLeaf} (hy : (foRule args σ).At y) : FunOk Tryd.prog 28 args σ y.1 y.2 := by
  unfold foRule at hy
  split at hy
  · rename_i k l
    obtain ⟨h1, h2⟩ := hy
    obtain rfl : _ = y := h2
    exact FunOk.of_anyG rfl fun e w hG => formOf_bad k (of_decide_eq_true h1) w hG
  · exact hy.elim
def spF (f : FuncId) : Option (List Sv → St → Tree FLeaf) := match Nat.beq f 28 with
  | true => some foRule
  | false => none
theorem spF_ok : SpOk Tryd.prog spF := by
  intro f g hf args σ y hy
  unfold spF at hf
  split at hf
  · rename_i h; obtain rfl := beq_iff'.1 h
    obtain rfl := Option.some.inj hf; exact foRule_ok hy
  · cases hf
set_option maxRecDepth 100000 in
theorem chk_bad (k t a b : Int) (nm ot : ByteArray) : res (evFn tbl [] spF 300 12 26 [.agg [.i .i64 k false, .i .i64 t false, .i .i64 a false, .i .i64 b false, .s nm false, .s ot false]] st0) = some ([decide (k < 1 ∨ 10 ≤ k)], .one (.i .i64 2)) := by kernel_rfl
theorem Check_bad (k t a b : Int) (nm ot : ByteArray) (w : World) (hG : Glob0 w) (hk : k < 1 ∨ 10 ≤ k) :
    Calls Tryd.prog 26 #[.agg #[.int .i64 k, .int .i64 t, .int .i64 a, .int .i64 b, .string nm, .string ot]] w fun e w' => e = .returned (.int .i64 2) ∧ Below w.heap.size w w' := by
  have h := res_any tbl_ok tbl_any spF_ok (fun x hx => by
    obtain rfl := List.mem_singleton.1 hx
    rfl) (chk_bad k t a b nm ot) (fun x hx => by
    obtain rfl := List.mem_singleton.1 hx
    exact decide_eq_true hk) w hG
  exact h
/-- Check at any event with short names. -/
theorem Check_any (k t a b : Int) (nm ot : ByteArray) (w : World) (hG : Glob0 w) (h1 : nm.size ≤ 1000000) (h2 : ot.size ≤ 1000000) :
    Calls Tryd.prog 26 #[.agg #[.int .i64 k, .int .i64 t, .int .i64 a, .int .i64 b, .string nm, .string ot]] w fun e w' => e = .returned (.int .i64 (bif okE k t a b nm ot then 0 else 2)) ∧ Below w.heap.size w w' := by
  by_cases hk : 1 ≤ k ∧ k ≤ 9
  · have h := Check_all k t a b nm ot w hG hk h1 h2
    have e : (bif okE k t a b nm ot then (0 : Int) else 2) = (bif chkE k t a b nm ot then 2 else 0) := by
      unfold okE
      rw [decide_eq_true ⟨hk.1, hk.2, h1, h2⟩]
      cases chkE k t a b nm ot <;> rfl
    rw [e]; exact h
  · have h := Check_bad k t a b nm ot w hG (by omega)
    have e : okE k t a b nm ot = false := by
      unfold okE
      rw [decide_eq_false (by omega)]
      rfl
    rw [e]; exact h
def evV (k t a b : Int) (nm ot : ByteArray) : Value := .agg #[.int .i64 k, .int .i64 t, .int .i64 a, .int .i64 b, .string nm, .string ot]
set_option maxRecDepth 20000 in
theorem Text_no (k t a b : Int) (nm ot : ByteArray) (w : World) (hG : Glob0 w) (h1 : nm.size ≤ 1000000) (h2 : ot.size ≤ 1000000) (h : okE k t a b nm ot = false) :
    Calls Tryd.prog 20 #[.agg #[.int .i64 k, .int .i64 t, .int .i64 a, .int .i64 b, .string nm, .string ot]] w fun e w' => e = .returned (.tuple #[.string ⟨#[]⟩, .int .i64 2]) ∧ Below w.heap.size w w' := by
  have C := Lib.hid (fun W hG => Check_any k t a b nm ot W hG h1 h2)
  rw [h] at C
  simp only [cond_false] at C
  have HG := Lib.hid hG
  clear hG h h1 h2
  go_enter Tryd.func20, Tryd.ntmps20
  go_wp2_with (go_at_call 26; refine (C.out _ (gstep HG.out bAl'')).mono ?_; rintro e w1 ⟨rfl, hb1⟩)
  exact bodyPost_ret (v := .tuple #[.string ⟨#[]⟩, .int .i64 2]) (by simp only [results, Tryd.results20]; go_simp) rfl ⟨rfl, (by repeat' (first | exact Below.refl _ _ | assumption | apply bDrewN | apply bDrew | apply bAlloc | (refine bSet ?_ ?_ _) | (refine bStep ?_ (by assumption)) | omega | (simp <;> omega)))⟩
set_option maxRecDepth 20000 in
theorem Bytes_no (k t a b : Int) (nm ot : ByteArray) (w : World) (hG : Glob0 w) (h1 : nm.size ≤ 1000000) (h2 : ot.size ≤ 1000000) (h : okE k t a b nm ot = false) :
    Calls Tryd.prog 19 #[.agg #[.int .i64 k, .int .i64 t, .int .i64 a, .int .i64 b, .string nm, .string ot]] w fun e w' => e = .returned (.tuple #[.slice none 0 0, .int .i64 2]) ∧ Below w.heap.size w w' := by
  have C := Lib.hid (fun W hG => Check_any k t a b nm ot W hG h1 h2)
  rw [h] at C
  simp only [cond_false] at C
  have HG := Lib.hid hG
  clear hG h h1 h2
  go_enter Tryd.func19, Tryd.ntmps19
  go_wp2_with (go_at_call 26; refine (C.out _ (gstep HG.out bAl'')).mono ?_; rintro e w1 ⟨rfl, hb1⟩)
  exact bodyPost_ret (v := .tuple #[.slice none 0 0, .int .i64 2]) (by simp only [results, Tryd.results19]; go_simp) rfl ⟨rfl, (by repeat' (first | exact Below.refl _ _ | assumption | apply bDrewN | apply bDrew | apply bAlloc | (refine bSet ?_ ?_ _) | (refine bStep ?_ (by assumption)) | omega | (simp <;> omega)))⟩
end Go.Proofs.YtfepehjbcmkdjaaDoor
