/-
  Fuses: what Melts returns, in plain numbers; slices of whole numbers.
-/
import Derived.Test.YtgiinciclnekjaaProg
import Derived.Test.YtgiinciclnekjaaB2
import Derived.OwnWalk
import Derived.KernelRfl
set_option linter.unusedSimpArgs false
set_option linter.unusedVariables false
namespace Go.Proofs.Ytgiinciclnekjaa
open Go.RowKit

/-! Slices of whole numbers. -/
def IntAt (a : Option Addr) (xs : List Int) (W : World) : Prop := xs ≠ [] → ∃ b off, a = some ⟨b, off, none⟩ ∧ b < W.heap.size ∧ ∀ k, k < xs.length → W.cell? ⟨b, off + k, none⟩ = some (.int .i64 (xs.getD k 0))
def IntRow (v : Value) (xs : List Int) (W : World) : Prop := ∃ (a : Option Addr) (c : Nat), v = .slice a xs.length c ∧ IntAt a xs W
theorem IntAt.step {a : Option Addr} {xs : List Int} {W w2 : World} (h : IntAt a xs W) (hb : Below W.heap.size W w2) : IntAt a xs w2 := fun hn => by
  obtain ⟨b, off, rfl, h1, h2⟩ := h hn
  exact ⟨b, off, rfl, Nat.lt_of_lt_of_le h1 hb.size, fun k hk => cell_step (h2 k hk) hb⟩
theorem IntRow.step {v : Value} {xs : List Int} {W w2 : World} (h : IntRow v xs W) (hb : Below W.heap.size W w2) : IntRow v xs w2 := by
  obtain ⟨a, c, rfl, h⟩ := h
  exact ⟨a, c, rfl, h.step hb⟩
theorem IntAt.at_ {a : Option Addr} {xs : List Int} {W : World} (h : IntAt a xs W) {k : Nat} (hk : k < xs.length) : ∃ b off, a = some ⟨b, off, none⟩ ∧ W.cell? ⟨b, off + k, none⟩ = some (.int .i64 xs[k]) := by
  obtain ⟨b, off, rfl, _, h2⟩ := h (fun e => by rw [e] at hk; simp at hk)
  have := h2 k hk
  rw [List.getD_eq_getElem?_getD, List.getElem?_eq_getElem hk] at this
  exact ⟨b, off, rfl, this⟩
theorem own_ge {W : World} {B e s : Nat} {v : Value} {n : Nat} {xs : List Value} (h : W.ownsRow B e s v n xs) : ∀ k, v.ownBlock = some k → B ≤ k := by
  intro k hk
  rcases h.2 with ⟨rfl, _⟩ | ⟨g, cap, cur, rfl, q2, _⟩
  · cases hk
  · cases hk; exact q2
def flatI (xs : List Int) : List Value := xs.map (Value.int .i64)
/-- The slice v owns the numbers xs, in a block from B on. -/
def IntOwn (W : World) (B : Nat) (v : Value) (xs : List Int) : Prop := W.ownsRow B 2 1 v xs.length (flatI xs)
theorem IntOwn.nil {W : World} {B : Nat} : IntOwn W B (.slice none 0 0) [] := ⟨rfl, Or.inl ⟨rfl, rfl⟩⟩
theorem own_step {W w2 : World} {B e s : Nat} {v : Value} {n : Nat} {xs : List Value} (h : W.ownsRow B e s v n xs) (hb : Below W.heap.size W w2) : w2.ownsRow B e s v n xs := by
  obtain ⟨h1, h2⟩ := h
  refine ⟨h1, ?_⟩
  rcases h2 with h2 | ⟨g, cap, cur, q1, q2, q3, q4⟩
  · exact Or.inl h2
  · exact Or.inr ⟨g, cap, cur, q1, q2, blk_step q3 hb, q4⟩
theorem IntOwn.step {W w2 : World} {B : Nat} {v : Value} {xs : List Int} (h : IntOwn W B v xs) (hb : Below W.heap.size W w2) : IntOwn w2 B v xs := own_step h hb
theorem IntOwn.row {W : World} {B : Nat} {v : Value} {xs : List Int} (h : IntOwn W B v xs) : IntRow v xs W := by
  obtain ⟨h1, h2⟩ := h
  rcases h2 with ⟨rfl, h2⟩ | ⟨g, cap, cur, rfl, q2, q3, q4, q5, q6, q7⟩
  · exact ⟨none, 0, by rw [h2], fun hn => absurd (List.length_eq_zero_iff.1 h2) hn⟩
  · refine ⟨_, _, rfl, fun _ => ⟨g, 0, rfl, blk_lt q3, fun j hj => ?_⟩⟩
    have hf : (flatI xs)[j]? = some (.int .i64 (xs.getD j 0)) := by simp [flatI, List.getD_eq_getElem?_getD, List.getElem?_eq_getElem hj]
    rw [← q7, List.getElem?_take_of_lt (by omega)] at hf
    exact blk_cell q3 (by simpa using hf)
theorem IntOwn.more {W : World} {B : Nat} {v : Value} {xs : List Int} {x : Int} (h : W.ownsRow B 2 1 v (xs.length + 1) (flatI xs ++ [.int .i64 x])) : IntOwn W B v (xs ++ [x]) := by
  unfold IntOwn flatI
  rw [List.map_append, List.length_append]
  exact h
theorem infoI : (Try.prog.info? 2).map (fun i => (i.zero, i.size, i.bytes)) = some (some (.int .i64 0), 1, 8) := by kernel_rfl
theorem one_cells (W : World) (x : Int) (T : TypeId) : ∀ j u, [Value.int .i64 x][j]? = some u → (W.alloc (.cells #[.int .i64 x] T)).cell? ((⟨W.heap.size, 0, none⟩ : Addr).add j) = some u := by
  intro j u hj
  match j, hj with
  | 0, hj => simp at hj; subst hj; simp [Addr.add]
theorem one_one (x : Int) : ∀ u ∈ [Value.int .i64 x], u.oneCell' = true := by
  intro u hu
  simp at hu
  rw [hu]; rfl

/-! What Melts returns. -/
def inR (x : Int) : Bool := decide (-1048576 ≤ x) && decide (x ≤ 1048576)
theorem inR_iff {x : Int} : inR x = true ↔ -1048576 ≤ x ∧ x ≤ 1048576 := by simp [inR]
def heat (r h x : Int) : Int := max 0 (h + (x * x - r * r))
def burn (r m : Int) : List Int → Int → Nat → Int × Bool
  | [], _, _ => (0, false)
  | x :: xs, h, i => if m ≤ heat r h x then ((i : Int), true) else burn r m xs (heat r h x) (i + 1)
def okF (r m : Int) : Prop := 0 ≤ r ∧ r ≤ 1048576 ∧ 1 ≤ m ∧ m ≤ 1099511627776
instance (r m : Int) : Decidable (okF r m) := by unfold okF; infer_instance
/-- The index, whether it melts, and the error. -/
def meltS (r m : Int) (xs : List Int) : Int × Bool × Int :=
  if okF r m then if 2000 < xs.length then (0, false, 6) else if xs.all inR then ((burn r m xs 0 0).1, (burn r m xs 0 0).2, 0) else (0, false, 3) else (0, false, 2)
def mtup (p : Int × Bool × Int) : Value := .tuple #[.int .i64 p.1, .bool p.2.1, .int .i64 p.2.2]

theorem burn_drop {r m h : Int} {xs : List Int} {k : Nat} (hk : k < xs.length) : burn r m (xs.drop k) h k = if m ≤ heat r h xs[k] then ((k : Int), true) else burn r m (xs.drop (k + 1)) (heat r h xs[k]) (k + 1) := by
  rw [List.drop_eq_getElem_cons hk, burn]
theorem all_get {xs : List Int} (h : xs.all inR = true) {k : Nat} (hk : k < xs.length) : -1048576 ≤ xs[k] ∧ xs[k] ≤ 1048576 := inR_iff.1 (List.all_eq_true.1 h _ (List.getElem_mem hk))
theorem sq_le {x b : Int} (h1 : -b ≤ x) (h2 : x ≤ b) : 0 ≤ x * x ∧ x * x ≤ b * b := by
  refine ⟨by rcases Int.le_total 0 x with h | h; exact Int.mul_nonneg h h; exact Int.mul_nonneg_of_nonpos_of_nonpos h h, ?_⟩
  rcases Int.le_total 0 x with h | h
  · exact Int.mul_le_mul h2 h2 h (by omega)
  · have := Int.mul_le_mul (a := -x) (b := -x) (c := b) (d := b) (by omega) (by omega) (by omega) (by omega)
    rwa [Int.neg_mul_neg] at this
theorem sq_diff (x r : Int) : (x - r) * (x + r) = x * x - r * r := by
  rw [Int.sub_mul, Int.mul_add, Int.mul_add, Int.mul_comm r x]; omega
theorem melt_bounds {x r : Int} (hx : -1048576 ≤ x ∧ x ≤ 1048576) (hr : 0 ≤ r ∧ r ≤ 1048576) : 0 ≤ x * x ∧ x * x ≤ 1099511627776 ∧ 0 ≤ r * r ∧ r * r ≤ 1099511627776 := by
  have h1 := sq_le hx.1 hx.2
  have h2 := sq_le (b := 1048576) (x := r) (by omega) hr.2
  omega

end Go.Proofs.Ytgiinciclnekjaa
