/-
  Events: their bytes and their texts tell them apart: the plain law.
-/
import Derived.Test.YtdelgbdiofkndaaGreatDoorG0Events
import Derived.Lib.ItoaNum
import Derived.Lib.ItoaMem
import Derived.Lib.Join
import Derived.Test.YtdelgbdiofkndaaGreatDoorG10Events
set_option linter.unusedSimpArgs false
set_option linter.unusedVariables false
namespace Go.Proofs.YtdelgbdiofkndaaGreatDoor

/-! Decimal digits. -/
def dval (l : List UInt8) : Nat := l.foldl (fun s c => 10 * s + (c.toNat - 48)) 0
theorem dval_snoc (l : List UInt8) (c : UInt8) : dval (l ++ [c]) = 10 * dval l + (c.toNat - 48) := by simp [dval]
theorem dig_nat {u : Nat} (h : u < 10) : (UInt8.ofNat (48 + u)).toNat = 48 + u := by
  simp only [UInt8.toNat_ofNat']
  omega
theorem dec_step {u : Nat} (h : ¬ u < 10) : Lib.decDigits u = Lib.decDigits (u / 10) ++ [UInt8.ofNat (48 + u % 10)] := by
  rw [Lib.decDigits, dif_neg h]
theorem dval_dec (u : Nat) : dval (Lib.decDigits u) = u := by
  induction u using Nat.strongRecOn with
  | ind u ih =>
    by_cases h : u < 10
    · rw [Lib.decDigits_one h]
      simp only [dval, List.foldl_cons, List.foldl_nil, dig_nat h]
      omega
    · rw [dec_step h, dval_snoc, ih (u / 10) (by omega), dig_nat (by omega)]
      omega
theorem dec_inj {u v : Nat} (h : Lib.decDigits u = Lib.decDigits v) : u = v := by rw [← dval_dec u, h, dval_dec]
theorem dec_ne (u : Nat) : Lib.decDigits u ≠ [] := by
  by_cases h : u < 10
  · rw [Lib.decDigits_one h]; simp
  · rw [dec_step h]; simp
theorem dec_plain (u : Nat) : ∀ c ∈ Lib.decDigits u, 48 ≤ c.toNat ∧ c.toNat ≤ 57 := by
  induction u using Nat.strongRecOn with
  | ind u ih =>
    intro c hc
    by_cases h : u < 10
    · rw [Lib.decDigits_one h] at hc
      obtain rfl := List.mem_singleton.1 hc
      rw [dig_nat h]; omega
    · rw [dec_step h] at hc
      rcases List.mem_append.1 hc with hc | hc
      · exact ih (u / 10) (by omega) c hc
      · obtain rfl := List.mem_singleton.1 hc
        rw [dig_nat (by omega)]; omega
theorem itoa_pos {n : Int} (h : 0 ≤ n) : Lib.itoa n = Lib.decDigits n.toNat := by
  obtain ⟨u, rfl⟩ := Int.eq_ofNat_of_zero_le h
  exact Lib.itoa_nonneg u
theorem itoa_inj {m n : Int} (hm : 0 ≤ m) (hn : 0 ≤ n) (h : Lib.itoa m = Lib.itoa n) : m = n := by
  rw [itoa_pos hm, itoa_pos hn] at h
  have := dec_inj h
  omega
def Sp (l : List UInt8) : Prop := ∀ c ∈ l, c.toNat ≠ 32
theorem itoa_sp {n : Int} (h : 0 ≤ n) : Sp (Lib.itoa n) := fun c hc => by
  rw [itoa_pos h] at hc
  have := dec_plain _ c hc
  omega
theorem itoa_ne {n : Int} (h : 0 ≤ n) : Lib.itoa n ≠ [] := by rw [itoa_pos h]; exact dec_ne _

/-! Texts joined by a space. -/
def Head (t : List UInt8) : Prop := t = [] ∨ ∃ r, t = 32 :: r
theorem cut_at : ∀ {x y t1 t2 : List UInt8}, Sp x → Sp y → Head t1 → Head t2 → x ++ t1 = y ++ t2 → x = y ∧ t1 = t2
  | [], [], _, _, _, _, _, _, h => ⟨rfl, h⟩
  | [], c :: y, t1, t2, _, hy, h1, _, h => by
    exfalso
    rcases h1 with rfl | ⟨r, rfl⟩
    · cases h
    · simp only [List.nil_append, List.cons_append, List.cons.injEq] at h
      exact hy c (List.mem_cons_self ..) (by rw [← h.1]; rfl)
  | c :: x, [], t1, t2, hx, _, _, h2, h => by
    exfalso
    rcases h2 with rfl | ⟨r, rfl⟩
    · cases h
    · simp only [List.nil_append, List.cons_append, List.cons.injEq] at h
      exact hx c (List.mem_cons_self ..) (by rw [h.1]; rfl)
  | c :: x, d :: y, t1, t2, hx, hy, h1, h2, h => by
    simp only [List.cons_append, List.cons.injEq] at h
    obtain ⟨e1, e2⟩ := cut_at (fun z hz => hx z (List.mem_cons_of_mem _ hz)) (fun z hz => hy z (List.mem_cons_of_mem _ hz)) h1 h2 h.2
    exact ⟨by rw [h.1, e1], e2⟩
theorem tail_head (r : List (List UInt8)) : Head (Lib.joinTail [32] r) := by
  cases r with
  | nil => exact Or.inl rfl
  | cons y r => exact Or.inr ⟨y ++ Lib.joinTail [32] r, by simp [Lib.joinTail]⟩
theorem tail_cons (y : List UInt8) (r : List (List UInt8)) : Lib.joinTail [32] (y :: r) = 32 :: (y ++ Lib.joinTail [32] r) := by simp [Lib.joinTail]
theorem tail_inj : ∀ {xs ys : List (List UInt8)}, (∀ x ∈ xs, Sp x) → (∀ y ∈ ys, Sp y) → Lib.joinTail [32] xs = Lib.joinTail [32] ys → xs = ys
  | [], [], _, _, _ => rfl
  | [], y :: ys, _, _, h => by rw [tail_cons] at h; cases h
  | x :: xs, [], _, _, h => by rw [tail_cons] at h; cases h
  | x :: xs, y :: ys, hx, hy, h => by
    rw [tail_cons, tail_cons] at h
    simp only [List.cons.injEq, true_and] at h
    obtain ⟨e1, e2⟩ := cut_at (hx x (List.mem_cons_self ..)) (hy y (List.mem_cons_self ..)) (tail_head _) (tail_head _) h
    rw [e1, tail_inj (fun z hz => hx z (List.mem_cons_of_mem _ hz)) (fun z hz => hy z (List.mem_cons_of_mem _ hz)) e2]
theorem join_inj {x y : List UInt8} {xs ys : List (List UInt8)} (hx : ∀ z ∈ x :: xs, Sp z) (hy : ∀ z ∈ y :: ys, Sp z) (h : Lib.join (x :: xs) [32] = Lib.join (y :: ys) [32]) : x :: xs = y :: ys := by
  rw [Lib.join_cons, Lib.join_cons] at h
  obtain ⟨e1, e2⟩ := cut_at (hx x (List.mem_cons_self ..)) (hy y (List.mem_cons_self ..)) (tail_head _) (tail_head _) h
  rw [e1, tail_inj (fun z hz => hx z (List.mem_cons_of_mem _ hz)) (fun z hz => hy z (List.mem_cons_of_mem _ hz)) e2]

/-! Events. -/
structure Ev where
  k : Int
  t : Int
  a : Int
  b : Int
  nm : List UInt8
  ot : List UInt8
def word (k : Int) : List UInt8 :=
  if k = 1 then [109, 97, 100, 101] else if k = 2 then [117, 115, 101] else if k = 3 then [116, 101, 115, 116] else if k = 4 then [102, 97, 117, 108, 116] else
  if k = 5 then [112, 117, 116] else if k = 6 then [116, 97, 107, 101] else if k = 7 then [114, 101, 99, 97, 108, 108] else if k = 8 then [99, 108, 101, 97, 114] else [115, 99, 114, 97, 112]
/-- What a valid event is, as far as the law wants it. -/
structure EvOk (e : Ev) : Prop where
  k : 1 ≤ e.k ∧ e.k ≤ 9
  t : 0 ≤ e.t ∧ e.t ≤ 1099511627776
  a : 0 ≤ e.a ∧ e.a ≤ 1099511627776
  b : 0 ≤ e.b ∧ e.b ≤ 1099511627776
  a0 : 5 ≤ e.k → e.a = 0
  b0 : 3 ≤ e.k → e.b = 0
  nm : Sp e.nm
  ot : Sp e.ot
  nm0 : (e.k = 2 ∨ e.k = 3 ∨ e.k = 4 ∨ e.k = 9) → e.nm = []
  nm1 : (e.k = 1 ∨ e.k = 5 ∨ e.k = 6 ∨ e.k = 7 ∨ e.k = 8) → e.nm ≠ []
  ot0 : (e.k ≠ 5 ∧ e.k ≠ 6) → e.ot = []
  ot1 : (e.k = 5 ∨ e.k = 6) → e.ot ≠ []
/-- The words of its text. -/
def parts (e : Ev) : List (List UInt8) :=
  Lib.itoa e.t :: ((if e.k ≤ 2 then [Lib.itoa e.a, Lib.itoa e.b] else if e.k ≤ 4 then [Lib.itoa e.a] else []) ++ (if e.nm = [] then [] else [e.nm]) ++ (if e.ot = [] then [] else [e.ot]))
def textE (e : Ev) : List UInt8 := Lib.join (word e.k :: parts e) [32]
theorem word_sp (k : Int) : Sp (word k) := by
  unfold word Sp
  repeat' split
  all_goals decide
theorem word_inj {k l : Int} (hk : 1 ≤ k ∧ k ≤ 9) (hl : 1 ≤ l ∧ l ≤ 9) (h : word k = word l) : k = l := by
  have h1 : k = 1 ∨ k = 2 ∨ k = 3 ∨ k = 4 ∨ k = 5 ∨ k = 6 ∨ k = 7 ∨ k = 8 ∨ k = 9 := by omega
  have h2 : l = 1 ∨ l = 2 ∨ l = 3 ∨ l = 4 ∨ l = 5 ∨ l = 6 ∨ l = 7 ∨ l = 8 ∨ l = 9 := by omega
  rcases h1 with rfl | rfl | rfl | rfl | rfl | rfl | rfl | rfl | rfl <;> rcases h2 with rfl | rfl | rfl | rfl | rfl | rfl | rfl | rfl | rfl <;> first | rfl | (exfalso; revert h; decide)
theorem parts_sp {e : Ev} (h : EvOk e) : ∀ z ∈ word e.k :: parts e, Sp z := by
  intro z hz
  rcases List.mem_cons.1 hz with rfl | hz
  · exact word_sp _
  unfold parts at hz
  rcases List.mem_cons.1 hz with rfl | hz
  · exact itoa_sp h.t.1
  rcases List.mem_append.1 hz with hz | hz
  · rcases List.mem_append.1 hz with hz | hz
    · split at hz
      · simp only [List.mem_cons, List.not_mem_nil, or_false] at hz
        rcases hz with rfl | rfl
        · exact itoa_sp h.a.1
        · exact itoa_sp h.b.1
      · split at hz
        · obtain rfl := List.mem_singleton.1 hz; exact itoa_sp h.a.1
        · cases hz
    · split at hz
      · cases hz
      · obtain rfl := List.mem_singleton.1 hz; exact h.nm
  · split at hz
    · cases hz
    · obtain rfl := List.mem_singleton.1 hz; exact h.ot
theorem text_inj {e f : Ev} (he : EvOk e) (hf : EvOk f) (h : textE e = textE f) : e = f := by
  have h1 := join_inj (parts_sp he) (parts_sp hf) h
  simp only [List.cons.injEq] at h1
  obtain ⟨h1, h2⟩ := h1
  have hk := word_inj he.k hf.k h1
  obtain ⟨k, t, a, b, nm, ot⟩ := e
  obtain ⟨k', t', a', b', nm', ot'⟩ := f
  dsimp only at hk
  subst hk
  obtain ⟨k1, t1, a1, b1, a01, b01, nm1, ot1, nm01, nm11, ot01, ot11⟩ := he
  obtain ⟨k2, t2, a2, b2, a02, b02, nm2, ot2, nm02, nm12, ot02, ot12⟩ := hf
  dsimp only at *
  unfold parts at h2
  dsimp only at h2
  simp only [List.cons.injEq] at h2
  obtain ⟨e1, h2⟩ := h2
  have et := itoa_inj t1.1 t2.1 e1
  subst et
  have hc : k = 1 ∨ k = 2 ∨ k = 3 ∨ k = 4 ∨ k = 5 ∨ k = 6 ∨ k = 7 ∨ k = 8 ∨ k = 9 := by omega
  rcases hc with rfl | rfl | rfl | rfl | rfl | rfl | rfl | rfl | rfl
  all_goals simp at a01 b01 nm01 nm11 ot01 ot11 a02 b02 nm02 nm12 ot02 ot12 h2
  all_goals (try subst a01); (try subst a02); (try subst b01); (try subst b02); (try subst nm01); (try subst nm02); (try subst ot01); (try subst ot02)
  all_goals simp_all
  all_goals first | exact itoa_inj (by omega) (by omega) (by assumption) | exact ⟨itoa_inj (by omega) (by omega) h2.1, itoa_inj (by omega) (by omega) h2.2⟩ | exact ⟨itoa_inj (by omega) (by omega) h2.1, itoa_inj (by omega) (by omega) h2.2.1⟩
end Go.Proofs.YtdelgbdiofkndaaGreatDoor

/-
  Text at each kind of events that Check lets pass.
-/
set_option linter.unusedSimpArgs false
set_option linter.unusedVariables false
namespace Go.Proofs.YtdelgbdiofkndaaGreatDoor
open Sx Go.RowKit
/-- An event that Check refuses. -/
def chkE (k t a b : Int) (nm ot : ByteArray) : Bool := match k with
  | 1 => chkB 1 4294967296 32 t a b (nameB nm) ((ot.toList == []))
  | 2 => chkB 0 1099511627776 1099511627776 t a b ((nm.toList == [])) ((ot.toList == []))
  | 3 => chkB 0 4294967296 0 t a b ((nm.toList == [])) ((ot.toList == []))
  | 4 => chkB 1 12 0 t a b ((nm.toList == [])) ((ot.toList == []))
  | 5 => chkB 0 0 0 t a b (modB nm) (nameB ot)
  | 6 => chkB 0 0 0 t a b (modB nm) (nameB ot)
  | 7 => chkB 0 0 0 t a b (nameB nm) ((ot.toList == []))
  | 8 => chkB 0 0 0 t a b (nameB nm) ((ot.toList == []))
  | 9 => chkB 0 0 0 t a b ((nm.toList == [])) ((ot.toList == []))
  | _ => true
def okE (k t a b : Int) (nm ot : ByteArray) : Bool := decide (1 ≤ k ∧ k ≤ 9 ∧ nm.size ≤ 1000000 ∧ ot.size ≤ 1000000) && !chkE k t a b nm ot
theorem Check_all (k t a b : Int) (nm ot : ByteArray) (w : World) (hG : Glob0 w) (hk : 1 ≤ k ∧ k ≤ 9) (h1 : nm.size ≤ 1000000) (h2 : ot.size ≤ 1000000) :
    Calls Tryz.prog 12 #[.agg #[.int .i64 k, .int .i64 t, .int .i64 a, .int .i64 b, .string nm, .string ot]] w fun e w' => e = .returned (.int .i64 (bif chkE k t a b nm ot then 2 else 0)) ∧ Below w.heap.size w w' := by
  have hc : k = 1 ∨ k = 2 ∨ k = 3 ∨ k = 4 ∨ k = 5 ∨ k = 6 ∨ k = 7 ∨ k = 8 ∨ k = 9 := by omega
  rcases hc with rfl | rfl | rfl | rfl | rfl | rfl | rfl | rfl | rfl
  · exact Check_at1 t a b nm ot w hG h1 h2
  · exact Check_at2 t a b nm ot w hG h1 h2
  · exact Check_at3 t a b nm ot w hG h1 h2
  · exact Check_at4 t a b nm ot w hG h1 h2
  · exact Check_at5 t a b nm ot w hG h1 h2
  · exact Check_at6 t a b nm ot w hG h1 h2
  · exact Check_at7 t a b nm ot w hG h1 h2
  · exact Check_at8 t a b nm ot w hG h1 h2
  · exact Check_at9 t a b nm ot w hG h1 h2
/-- The rule of Check, where it lets an event pass. -/
def chRule : List Sv → St → Tree FLeaf
  | [.agg [.i .i64 k _, .i .i64 t _, .i .i64 a _, .i .i64 b _, .s nm _, .s ot _]], σ => .must (okE k t a b nm ot) (.leaf (.one (.i .i64 0 true), σ))
  | _, _ => .fail
theorem chRule_ok {args : List Sv} {σ : St} {y : FLeaf} (hy : (chRule args σ).At y) : FunOk Tryz.prog 12 args σ y.1 y.2 := by
  unfold chRule at hy
  split at hy
  · rename_i k l0 t l1 a l2 b l3 nm l4 ot l5
    obtain ⟨h1, h2⟩ := hy
    obtain rfl : _ = y := h2
    unfold okE at h1
    rw [Bool.and_eq_true] at h1
    obtain ⟨h1, h3⟩ := h1
    obtain ⟨k1, k2, k3, k4⟩ := of_decide_eq_true h1
    have h4 : chkE k t a b nm ot = false := by simpa using h3
    exact FunOk.of_anyG rfl fun e w hG => by
      have h := Check_all k t a b nm ot w hG ⟨k1, k2⟩ k3 k4
      rw [h4] at h
      exact h
  · exact hy.elim
/-- The rule of empty, told by the list. -/
def em2 : List Sv → St → Tree FLeaf
  | [.one (.s v l)], σ => .leaf (.one (.b v.data.toList.isEmpty l), σ)
  | _, _ => .fail
theorem em2_ok {args : List Sv} {σ : St} {y : FLeaf} (hy : (em2 args σ).At y) : FunOk Tryz.prog 22 args σ y.1 y.2 := by
  unfold em2 at hy
  split at hy
  · rename_i v l
    obtain rfl : _ = y := hy
    refine FunOk.of_any rfl fun e w => ?_
    have h := empty_any v w
    have e2 : (v.toList == []) = v.data.toList.isEmpty := by
      rw [Lib.toList_data]
      cases v.data.toList <;> rfl
    rw [e2] at h
    exact h
  · exact hy.elim
def itH (n : Int) : UInt8 := (Lib.itoa n).headD 0
def itT (n : Int) : List UInt8 := (Lib.itoa n).tail
theorem it_is (n : Int) : itH n :: itT n = Lib.itoa n := by
  have h : Lib.itoa n ≠ [] := by
    unfold Lib.itoa
    split
    · simp
    · exact dec_ne _
  unfold itH itT
  cases h2 : Lib.itoa n with
  | nil => exact absurd h2 h
  | cons c l => rfl
/-- The rule of FormatInt, its text split. -/
def fm2 : List Sv → St → Tree FLeaf
  | [.one (.i .i64 n _), .one (.i .i64 10 _)], σ => .must (decide (-9223372036854775808 ≤ n ∧ n ≤ 9223372036854775807)) (.leaf (.one (.s ⟨(itH n :: itT n).toArray⟩ true), σ))
  | _, _ => .fail
theorem fm2_ok {args : List Sv} {σ : St} {y : FLeaf} (hy : (fm2 args σ).At y) : FunOk Tryz.prog 19 args σ y.1 y.2 := by
  unfold fm2 at hy
  split at hy
  · rename_i n l l2
    obtain ⟨h1, h2⟩ := hy
    obtain rfl : _ = y := h2
    obtain ⟨a, b⟩ := of_decide_eq_true h1
    refine FunOk.of_anyG rfl fun e w hG => ?_
    have h := fmt_any n a b w hG.1
    rw [← it_is] at h
    exact h
  · exact hy.elim
def spT (f : FuncId) : Option (List Sv → St → Tree FLeaf) := match Nat.beq f 12 with
  | true => some chRule
  | false => match Nat.beq f 22 with
    | true => some em2
    | false => match Nat.beq f 19 with
      | true => some fm2
      | false => match Nat.beq f 20 with
        | true => some jnRule
        | false => none
theorem spT_ok : SpOk Tryz.prog spT := by
  intro f g hf args σ y hy
  unfold spT at hf
  split at hf
  · rename_i h; obtain rfl := beq_iff'.1 h
    obtain rfl := Option.some.inj hf; exact chRule_ok hy
  · split at hf
    · rename_i h; obtain rfl := beq_iff'.1 h
      obtain rfl := Option.some.inj hf; exact em2_ok hy
    · split at hf
      · rename_i h; obtain rfl := beq_iff'.1 h
        obtain rfl := Option.some.inj hf; exact fm2_ok hy
      · split at hf
        · rename_i h; obtain rfl := beq_iff'.1 h
          obtain rfl := Option.some.inj hf; exact jnRule_ok hy
        · cases hf
/-- What is demanded, and what is handed back. -/
def valF (T : Tree FLeaf) : Option (List Bool × Sv) := (peelF T).map fun r => (r.1, r.2.1)
theorem valF_at {T : Tree FLeaf} {l : List Bool} {v : Sv} (h : valF T = some (l, v)) (hl : ∀ b ∈ l, b = true) : ∃ y : FLeaf, T.At y ∧ y.1 = v := by
  unfold valF at h
  obtain ⟨⟨l2, y⟩, h1, h2⟩ := Option.map_eq_some_iff.1 h
  obtain ⟨rfl, rfl⟩ := Prod.mk.inj h2
  exact ⟨y, peelF_at h1 hl, rfl⟩
end Go.Proofs.YtdelgbdiofkndaaGreatDoor
