/-
 Own rows of any types, any number of them, in any order; objects that stay.
-/
import Derived.Test.YtmpilgkfbibhlaaGreatDoorG0Verifies
import Derived.Maps.AppendAt
import Derived.OneCell
import Derived.OwnWalk
import Derived.Test.YtmpilgkfbibhlaaGreatDoorG12Verifies
import Derived.Test.YtmpilgkfbibhlaaGreatDoorG1Verifies
set_option linter.unusedSimpArgs false
set_option linter.unusedVariables false
namespace Go.Proofs.YtmpilgkfbibhlaaGreatDoor
open Go.RowKit
namespace Mr
theorem bAl {W : World} {o : Obj} : Below W.heap.size W (W.alloc o) := (Below.refl _ _).alloc (Nat.le_refl _) _
def updF {α : Type} (f : Nat → α) (s : Nat) (v : α) : Nat → α := fun t => if t = s then v else f t
theorem updF_at {α : Type} {f : Nat → α} {s : Nat} {v : α} : updF f s v s = v := if_pos rfl
theorem updF_ne {α : Type} {f : Nat → α} {s t : Nat} {v : α} (h : t ≠ s) : updF f s v t = f t := if_neg h
theorem blk_grown {W w' : World} {row : Option Nat} {b : Nat} {x : Obj} (h : W.heap[b]? = some x) (hg : W.grownBy w' row) (hne : some b ≠ row) : w'.heap[b]? = some x := (hg.block b (blk_lt h) hne).trans h
theorem own_base {W : World} {B B2 e s n : Nat} {v : Value} {xs : List Value} (h : W.ownsRow B e s v n xs) (hB : B2 ≤ B) : W.ownsRow B2 e s v n xs := by
 obtain ⟨h1, h2⟩ := h
 refine ⟨h1, ?_⟩
 rcases h2 with h2 | ⟨g, cap, cur, q1, q2, q3⟩
 ·exact Or.inl h2
 ·exact Or.inr ⟨g, cap, cur, q1, by omega, q3⟩
theorem own_step {W w2 : World} {B e s n : Nat} {v : Value} {xs : List Value} (h : W.ownsRow B e s v n xs) (hb : Below W.heap.size W w2) : w2.ownsRow B e s v n xs := by
 obtain ⟨h1, h2⟩ := h
 refine ⟨h1, ?_⟩
 rcases h2 with h2 | ⟨g, cap, cur, q1, q2, q3, q4⟩
 ·exact Or.inl h2
 ·exact Or.inr ⟨g, cap, cur, q1, q2, blk_step q3 hb, q4⟩
structure Rw where
 E : TypeId
 sz : Nat
 v : Value
 n : Nat
 xs : List Value
def Rw.Own (W : World) (B : Nat) (r : Rw) : Prop := W.ownsRow B r.E r.sz r.v r.n r.xs
theorem Rw.Own.step {W w2 : World} {B : Nat} {r : Rw} (h : r.Own W B) (hb : Below W.heap.size W w2) : r.Own w2 B := own_step h hb
theorem Rw.Own.lt {W : World} {B : Nat} {r : Rw} (h : r.Own W B) : ∀ k, r.v.ownBlock = some k → B ≤ k ∧ k < W.heap.size := World.ownsRow.lt h
theorem Rw.Own.get {W : World} {B : Nat} {r : Rw} (h : r.Own W B) : ∃ a c, r.v = .slice a r.n c ∧ (r.n * r.sz ≠ 0 → ∃ g, a = some ⟨g, 0, none⟩ ∧ g < W.heap.size ∧ ∀ j u, r.xs[j]? = some u → W.cell? ⟨g, j, none⟩ = some u) := by
 obtain ⟨h1, h2⟩ := h
 rcases h2 with ⟨h2, h3⟩ | ⟨g, cap, cur, q1, q2, q3, q4, q5, q6, q7⟩
 ·exact ⟨none, 0, by rw [h2, h3], fun h => absurd (by rw [h3, Nat.zero_mul]) h⟩
 ·refine ⟨_, cap, q1, fun _ => ⟨g, rfl, blk_lt q3, fun j u hj => ?_⟩⟩
  have hjl := (List.getElem?_eq_some_iff.1 hj).1
  rw [← q7, List.getElem?_take_of_lt (by omega)] at hj
  exact blk_cell q3 (by simpa using hj)
def Far (u v : Value) : Prop := ∀ k, u.ownBlock = some k → v.ownBlock = some k → False
theorem Far.symm {u v : Value} (h : Far u v) : Far v u := fun k h1 h2 => h k h2 h1
theorem Far.ne {u v : Value} (h : Far u v) : u.ownBlock = none ∨ u.ownBlock ≠ v.ownBlock := by
 cases hu : u.ownBlock with
 | none => exact Or.inl rfl
 | some k => exact Or.inr fun e => h k hu e.symm
structure MR (w : World) (B : Nat) (L : Nat → Option Obj) (f : Nat → Option Rw) (W : World) : Prop where
 hB : w.heap.size ≤ B
 bel : Below w.heap.size w W
 sz : B ≤ W.heap.size
 sb : ∀ p o, L p = some o → W.heap[p]? = some o
 hL : ∀ p o s r, L p = some o → f s = some r → r.v.ownBlock ≠ some p
 own : ∀ s r, f s = some r → r.Own W B
 far : ∀ s s' r r', s ≠ s' → f s = some r → f s' = some r' → Far r.v r'.v
section
variable {w W w2 w' : World} {B : Nat} {L L' : Nat → Option Obj} {f f' : Nat → Option Rw} {s : Nat} {r r' : Rw}
theorem MR.congr (h : MR w B L f W) (hf : ∀ s, f' s = f s) : MR w B L f' W := by
 obtain rfl : f' = f := funext hf
 exact h
theorem MR.less (h : MR w B L f W) (hf : ∀ s p, f' s = some p → f s = some p) : MR w B L f' W :=
 ⟨h.hB, h.bel, h.sz, h.sb, fun p o s r e e' => h.hL p o s r e (hf s r e'), fun s r e => h.own s r (hf s _ e), fun s s' r r' n e e' => h.far s s' r r' n (hf s _ e) (hf s' _ e')⟩
theorem MR.drop (h : MR w B L f W) (s : Nat) : MR w B L (updF f s none) W := h.less fun t p e => by
 by_cases c : t = s
 ·subst c; rw [updF_at] at e; cases e
 ·rwa [updF_ne c] at e
theorem MR.start (hB : w.heap.size ≤ B) (hb : Below w.heap.size w W) (hs : B ≤ W.heap.size) (hL : ∀ p o, L p = some o → W.heap[p]? = some o) : MR w B L (fun _ => none) W :=
 ⟨hB, hb, hs, hL, (fun p o s r _ e => by cases e), (fun s r e => by cases e), (fun s s' r r' n e => by cases e)⟩
theorem MR.step (h : MR w B L f W) (hb : Below W.heap.size W w2) : MR w B L f w2 :=
 ⟨h.hB, bStep h.bel hb, Nat.le_trans h.sz hb.size, fun p o e => blk_step (h.sb p o e) hb, h.hL, fun s r e => (h.own s r e).step hb, h.far⟩
theorem MR.put (h : MR w B L f W) (s : Nat) (ho : r.Own W B) (hf : ∀ s' r', s' ≠ s → f s' = some r' → Far r.v r'.v) (hl : ∀ p o, L p = some o → r.v.ownBlock ≠ some p) : MR w B L (updF f s (some r)) W := by
 refine ⟨h.hB, h.bel, h.sz, h.sb, fun p o t r' e e' => ?_, fun t r' e => ?_, fun t t' r1 r2 n e e' => ?_⟩
 ·by_cases c : t = s
  ·subst c; rw [updF_at] at e'; cases e'; exact hl p o e
  ·rw [updF_ne c] at e'; exact h.hL p o t r' e e'
 ·by_cases c : t = s
  ·subst c; rw [updF_at] at e; cases e; exact ho
  ·rw [updF_ne c] at e; exact h.own t r' e
 ·by_cases c : t = s
  ·subst c
   rw [updF_at] at e
   rw [updF_ne (Ne.symm n)] at e'
   cases e
   exact hf t' r2 (Ne.symm n) e'
  ·by_cases c' : t' = s
   ·subst c'
    rw [updF_at] at e'
    rw [updF_ne c] at e
    cases e'
    exact (hf t r1 c e).symm
   ·rw [updF_ne c] at e
    rw [updF_ne c'] at e'
    exact h.far t t' r1 r2 n e e'
theorem MR.call (h : MR w B L f W) (s : Nat) (hb : Below W.heap.size W w2) (ho : r.Own w2 W.heap.size) : MR w B L (updF f s (some r)) w2 :=
 (h.step hb).put s (own_base ho h.sz) (fun s' r' _ e k e1 e2 => by
  have h1 := (ho.lt k e1).1
  have h2 := ((h.own s' r' e).lt k e2).2
  omega) fun p o e c => by
  have h1 := (ho.lt p c).1
  have h2 := blk_lt (h.sb p o e)
  omega
theorem own_fresh {cs : Array Value} {E sz n cap : Nat} (hl : cap ≤ maxLen) (hn : n ≤ cap) (hs : cs.size = cap * sz) : (⟨E, sz, .slice (some ⟨W.heap.size, 0, none⟩) n cap, n, cs.toList.take (n * sz)⟩ : Rw).Own (W.alloc (.cells cs E)) W.heap.size := by
 have hle : n * sz ≤ cs.size := by rw [hs]; exact Nat.mul_le_mul_right _ hn
 exact ⟨by simp [hle], Or.inr ⟨_, _, _, rfl, Nat.le_refl _, blk_new W _, hn, hl, hs, rfl⟩⟩
theorem MR.fresh (h : MR w B L f W) (s : Nat) (cs : Array Value) (E sz n : Nat) (hl : n ≤ maxLen) (hs : cs.size = n * sz) : MR w B L (updF f s (some ⟨E, sz, .slice (some ⟨W.heap.size, 0, none⟩) n n, n, cs.toList⟩)) (W.alloc (.cells cs E)) := by
 have h2 := own_fresh (W := W) (E := E) hl (Nat.le_refl _) hs
 rw [List.take_of_length_le (by simp [hs])] at h2
 exact h.call s bAl h2
theorem MR.app (h : MR w B L f W) (s : Nat) (hs : f s = some r) (ho : r'.Own w' B) (hg : W.grownBy w' r.v.ownBlock) (hat : r'.v.ownBlock = r.v.ownBlock ∨ r'.v.ownBlock = some W.heap.size) : MR w B L (updF f s (some r')) w' := by
 have hB := h.hB
 have h0 := h.own s r hs
 have hr : ∀ k, r.v.ownBlock = some k → B ≤ k := fun k e => (h0.lt k e).1
 have h1 : MR w B L (updF f s none) w' := by
  refine ⟨h.hB, h.bel.grown hg (by have := h.bel.size; omega) fun k hk => by have := hr k hk; omega, Nat.le_trans h.sz hg.size, fun p o e => ?_, fun p o t r1 e e' => ?_, fun t r1 e => ?_, fun t t' r1 r2 n e e' => ?_⟩
  ·exact blk_grown (h.sb p o e) hg fun c => h.hL p o s r e hs c.symm
  ·by_cases c : t = s
   ·subst c; rw [updF_at] at e'; cases e'
   ·rw [updF_ne c] at e'; exact h.hL p o t r1 e e'
  ·by_cases c : t = s
   ·subst c; rw [updF_at] at e; cases e
   ·rw [updF_ne c] at e
    exact World.ownsRow.kept (h.own t r1 e) hg (h.far t s r1 r c e hs).ne
  ·by_cases c : t = s
   ·subst c; rw [updF_at] at e; cases e
   ·by_cases c' : t' = s
    ·subst c'; rw [updF_at] at e'; cases e'
    ·rw [updF_ne c] at e
     rw [updF_ne c'] at e'
     exact h.far t t' r1 r2 n e e'
 refine (h1.put s ho (fun s' r1 n e k e1 e2 => ?_) fun p o e c => ?_).congr fun t => ?_
 ·rw [updF_ne n] at e
  rcases hat with q | q
  ·exact h.far s s' r r1 (Ne.symm n) hs e k (q.symm.trans e1) e2
  ·have := ((h.own s' r1 e).lt k e2).2
   rw [q] at e1
   simp at e1
   omega
 ·rcases hat with q | q
  ·exact h.hL p o s r e hs (q.symm.trans c)
  ·rw [q] at c
   have := blk_lt (h.sb p o e)
   simp at c
   omega
 ·by_cases c : t = s
  ·subst c; rw [updF_at, updF_at]
  ·rw [updF_ne c, updF_ne c, updF_ne c]
theorem MR.got (h : MR w B L f W) (hb : Below W.heap.size W w2) {p : Nat} {o : Obj} (hp : W.heap.size ≤ p) (ho : w2.heap[p]? = some o) : MR w B (updF L p (some o)) f w2 := by
 have k := h.step hb
 refine ⟨k.hB, k.bel, k.sz, fun q o' e => ?_, fun q o' s r e e' => ?_, k.own, k.far⟩
 ·by_cases c : q = p
  ·subst c; rw [updF_at] at e; cases e; exact ho
  ·rw [updF_ne c] at e; exact k.sb q o' e
 ·by_cases c : q = p
  ·subst c
   intro c
   have := ((h.own s r e').lt _ c).2
   omega
  ·rw [updF_ne c] at e; exact h.hL q o' s r e e'
theorem MR.store {p o : Nat} {u : Value} {cs : Array Value} {t : TypeId} (h : MR w B L f W) (hp : L p = some (.cells cs t (0, 0))) (hw : w.heap.size ≤ p) : MR w B (updF L p (some (.cells (cs.setIfInBounds o u) t (0, 0)))) f (W.setCell ⟨p, o, none⟩ u) := by
 refine ⟨h.hB, h.bel.setCell hw _, by simpa using h.sz, fun q ob e => ?_, fun q ob s r e e' => ?_, fun s r e => ownsRow_setCell_other (h.own s r e) (h.hL p _ s r hp e) _, h.far⟩
 ·by_cases c : q = p
  ·subst c; rw [updF_at] at e; cases e; exact blk_set (h.sb q _ hp)
  ·rw [updF_ne c] at e; exact blk_set_other (h.sb q ob e) c
 ·by_cases c : q = p
  ·subst c; rw [updF_at] at e; cases e; exact h.hL q _ s r hp e'
  ·rw [updF_ne c] at e; exact h.hL q ob s r e e'
end
def RdL (L : Nat → Option Obj) (v : Value) (n sz : Nat) (xs : List Value) : Prop := xs.length = n * sz ∧ ∃ a c, v = .slice a n c ∧ (n * sz ≠ 0 → ∃ p off cs t fr, a = some ⟨p, off, none⟩ ∧ L p = some (.cells cs t fr) ∧ ∀ j u, xs[j]? = some u → cs[off + j]? = some u)
theorem RdL.upd {L : Nat → Option Obj} {v : Value} {n sz p : Nat} {xs : List Value} {o : Obj} (h : RdL L v n sz xs) (hp : L p = none) : RdL (updF L p (some o)) v n sz xs := by
 obtain ⟨h0, a, c, h1, h2⟩ := h
 refine ⟨h0, a, c, h1, fun hn => ?_⟩
 obtain ⟨q, off, cs, t, fr, e1, e2, e3⟩ := h2 hn
 refine ⟨q, off, cs, t, fr, e1, ?_, e3⟩
 rw [updF_ne (fun c => by rw [c, hp] at e2; cases e2)]
 exact e2
theorem RdL.cells {w W : World} {B : Nat} {L : Nat → Option Obj} {f : Nat → Option Rw} {v : Value} {n sz : Nat} {xs : List Value} (h : MR w B L f W) (hr : RdL L v n sz xs) : ∃ a c, v = .slice a n c ∧ (n * sz ≠ 0 → ∃ p off, a = some ⟨p, off, none⟩ ∧ ∀ j u, xs[j]? = some u → W.cell? ⟨p, off + j, none⟩ = some u) := by
 obtain ⟨h0, a, c, h1, h2⟩ := hr
 refine ⟨a, c, h1, fun hn => ?_⟩
 obtain ⟨p, off, cs, t, fr, e1, e2, e3⟩ := h2 hn
 exact ⟨p, off, e1, fun j u hj => blk_cell (h.sb p _ e2) (e3 j u hj)⟩
section
variable {P : Program}
theorem firstCells_zero {x : Value} (h : ∃ a n c, x = .slice a n c) (size : Nat) (w : World) : (Builtin.firstCells size 0 x).run P w = .ok #[] w := by
 obtain ⟨a, n, c, rfl⟩ := h
 cases a with
 | none => rfl
 | some a =>
  simp only [Builtin.firstCells, Nat.zero_mul]
  have := run_firstCells_some (P := P) w size 0 a n c [] (by simp) (fun j x hx => by simp at hx)
  simpa [Builtin.firstCells] using this
theorem run_app_zero (w : World) (t ty e : TypeId) (i : TypeInfo) (ht : P.underlying t = some (.slice e)) (hi : P.info? e = some i) (base : Option Addr) (n cap : Nat) (h : n ≤ cap) (a : Option Addr) (c : Nat) :
  (Builtin.append_ #[t, t] ty #[.slice base n cap, .slice a 0 c]).run P w = .ok (.slice base n cap) w := by
 have hfc := firstCells_zero (P := P) ⟨a, 0, c, rfl⟩ i.size w
 cases base with
 | none => simp [Builtin.append_, run_underlying ht, sizeOf, typeInfo, hi, Builtin.lenOf, h, hfc]
 | some b => simp [Builtin.append_, run_underlying ht, sizeOf, typeInfo, hi, Builtin.lenOf, h, hfc, storeCells]
theorem add_at (p off j : Nat) : (⟨p, off, none⟩ : Addr).add j = ⟨p, off + j, none⟩ := by
 unfold Addr.add
 split
 ·rename_i h; subst h; rfl
 ·rfl
theorem run_app (w : World) (base : Nat) (t ty e : TypeId) (i : TypeInfo) (z : Value) (size bytes : Nat) (ht : P.underlying t = some (.slice e)) (hi : P.info? e = some i) (hz : i.zero = some z)
  (hsize : i.size = size) (hby : i.bytes = bytes) (hzs : z.cells.size = size) (hsz : 0 < size)
  (v : Value) (n : Nat) (xs : List Value) (hown : w.ownsRow base e size v n xs)
  (a : Option Addr) (m c : Nat) (news : List Value) (hl : news.length = m * size) (hnews : m * size ≠ 0 → ∃ p off, a = some ⟨p, off, none⟩ ∧ ∀ j u, news[j]? = some u → w.cell? ⟨p, off + j, none⟩ = some u) (h1 : ∀ u ∈ news, u.oneCell' = true)
  (h63 : n + m ≤ maxLen) (hbytes : (n + m) * bytes ≤ 140737488355328) (hbase : base ≤ w.heap.size) :
  ∃ v' w', (Builtin.append_ #[t, t] ty #[v, .slice a m c]).run P w = .ok v' w' ∧ w'.ownsRow base e size v' (n + m) (xs ++ news) ∧ w.grownBy w' v.ownBlock ∧ (v'.ownBlock = v.ownBlock ∨ v'.ownBlock = some w.heap.size) := by
 by_cases hm : m = 0
 ·subst hm
  obtain rfl : news = [] := List.eq_nil_of_length_eq_zero (by simpa using hl)
  refine ⟨v, w, ?_, by simpa using hown, ⟨rfl, rfl, rfl, Nat.le_refl _, fun _ _ _ => rfl⟩, Or.inl rfl⟩
  rcases hown.2 with ⟨rfl, h5⟩ | ⟨g, cap, cur, rfl, -, -, h4, -⟩
  ·subst h5; exact run_app_zero w _ _ _ _ ht hi _ _ _ (Nat.le_refl _) _ _
  ·exact run_app_zero w _ _ _ _ ht hi _ _ _ h4 _ _
 ·obtain ⟨p, off, rfl, hc⟩ := hnews (Nat.mul_ne_zero hm (by omega))
  obtain ⟨v', w', q1, q2, q3, -, q5⟩ := run_append_own_at (P := P) w base t ty e i z size bytes ht hi hz hsize hby hzs hsz v n xs hown ⟨p, off, none⟩ m c news hl (fun j u hj => by rw [add_at]; exact hc j u hj) h1 h63 hbytes hbase
  exact ⟨v', w', q1, q2, q3, q5⟩
theorem wp_app (w : World) {o : Oper} {a : Act} {K : Act → World → Prop} {Q : Exit → Act → World → Prop} (s x : Operand) (t : TypeId) (ho : o.op = .call { callee := .builtin .append, args := #[s, x], argTypes := #[t, t] })
  (base : Nat) (e : TypeId) (i : TypeInfo) (z : Value) (size bytes : Nat) (ht : P.underlying t = some (.slice e)) (hi : P.info? e = some i) (hz : i.zero = some z)
  (hsize : i.size = size) (hby : i.bytes = bytes) (hzs : z.cells.size = size) (hsz : 0 < size)
  (v : Value) (n : Nat) (xs : List Value) (hs : a.eval s = v) (hown : w.ownsRow base e size v n xs)
  (ad : Option Addr) (m c : Nat) (news : List Value) (hx : a.eval x = .slice ad m c) (hl : news.length = m * size) (hnews : m * size ≠ 0 → ∃ p off, ad = some ⟨p, off, none⟩ ∧ ∀ j u, news[j]? = some u → w.cell? ⟨p, off + j, none⟩ = some u) (h1 : ∀ u ∈ news, u.oneCell' = true)
  (h63 : n + m ≤ maxLen) (hbytes : (n + m) * bytes ≤ 140737488355328) (hbase : base ≤ w.heap.size)
  (h : ∀ v' w', w'.ownsRow base e size v' (n + m) (xs ++ news) → w.grownBy w' v.ownBlock → (v'.ownBlock = v.ownBlock ∨ v'.ownBlock = some w.heap.size) → K (a.put o.dst v') w') : o.wp P a w K Q := by
 obtain ⟨v', w', hr, h2, h3, h5⟩ := run_app (P := P) w base t o.type e i z size bytes ht hi hz hsize hby hzs hsz v n xs hown ad m c news hl hnews h1 h63 hbytes hbase
 unfold Oper.wp execOp
 simp only [ho, resolve, invoke, builtin, Sem.run_bind, Sem.run_pure, Result.andThen_ok, List.map_toArray, List.map_cons, List.map_nil, hs, hx, hr]
 exact h v' w' h2 h3 h5
theorem wpList_app {ops : Array Oper} {rest : List Oper} (w : World) {o : Oper} {a : Act} {Q : Exit → Act → World → Prop} (hgd : o.guard = none) (s x : Operand) (t : TypeId) (ho : o.op = .call { callee := .builtin .append, args := #[s, x], argTypes := #[t, t] })
  (base : Nat) (e : TypeId) (i : TypeInfo) (z : Value) (size bytes : Nat) (ht : P.underlying t = some (.slice e)) (hi : P.info? e = some i) (hz : i.zero = some z)
  (hsize : i.size = size) (hby : i.bytes = bytes) (hzs : z.cells.size = size) (hsz : 0 < size)
  (v : Value) (n : Nat) (xs : List Value) (hs : a.eval s = v) (hown : w.ownsRow base e size v n xs)
  (ad : Option Addr) (m c : Nat) (news : List Value) (hx : a.eval x = .slice ad m c) (hl : news.length = m * size) (hnews : m * size ≠ 0 → ∃ p off, ad = some ⟨p, off, none⟩ ∧ ∀ j u, news[j]? = some u → w.cell? ⟨p, off + j, none⟩ = some u) (h1 : ∀ u ∈ news, u.oneCell' = true)
  (h63 : n + m ≤ maxLen) (hbytes : (n + m) * bytes ≤ 140737488355328) (hbase : base ≤ w.heap.size)
  (h : ∀ v' w', w'.ownsRow base e size v' (n + m) (xs ++ news) → w.grownBy w' v.ownBlock → (v'.ownBlock = v.ownBlock ∨ v'.ownBlock = some w.heap.size) → wpList P ops Q rest (a.put o.dst v') w') : wpList P ops Q (o :: rest) a w :=
 wpList_plain hgd fun _ hK => wp_app w s x t ho base e i z size bytes ht hi hz hsize hby hzs hsz v n xs hs hown ad m c news hx hl hnews h1 h63 hbytes hbase fun v' w' h2 h3 h5 => hK _ _ (h v' w' h2 h3 h5)
end
end Mr
end Go.Proofs.YtmpilgkfbibhlaaGreatDoor
namespace Go.Proofs.YtmpilgkfbibhlaaGreatDoor
open Go.RowKit
def bigL (n m : Nat) : List Nat := (List.range m).map fun j => n / 256 ^ (m - 1 - j) % 256
theorem bigL_len (n m : Nat) : (bigL n m).length = m := by simp [bigL]
theorem bigL_8 (n : Nat) : bigL n 8 = b8 n := by simp [bigL, b8, List.range_succ]
theorem bigL_get {n m j : Nat} (h : j < m) : (byC (bigL n m))[j]? = some (.int .u8 ((n / 256 ^ (m - 1 - j) % 256 : Nat) : Int)) := by
 unfold byC bigL
 rw [List.getElem?_map, List.getElem?_map, List.getElem?_range h]
 rfl
def BgB (B n m k : Nat) (W : World) : Prop := ∃ cs : Array Value, W.heap[B]? = some (.cells cs 5 (0, 0)) ∧ cs.size = m ∧ (∀ j, j < m → ∃ x : Int, cs[j]? = some (.int .u8 x)) ∧ ∀ j, m - k ≤ j → j < m → cs[j]? = (byC (bigL n m))[j]?
theorem BgB.cell {B n m k : Nat} {W : World} (h : BgB B n m k W) {j : Nat} (hj : j < m) : (∃ x : Int, W.cell? ⟨B, j, none⟩ = some (.int .u8 x)) ∧ W.frozen? ⟨B, j, none⟩ = false := by
 obtain ⟨cs, h1, h2, h3, h4⟩ := h
 obtain ⟨x, hx⟩ := h3 j hj
 exact ⟨⟨x, blk_cell h1 hx⟩, blk_free h1⟩
theorem BgB.next {B n m k : Nat} {W : World} (h : BgB B n m k W) (hk : k < m) : BgB B n m (k + 1) (W.setCell ⟨B, m - 1 - k, none⟩ (.int .u8 ((n / 256 ^ k % 256 : Nat) : Int))) := by
 obtain ⟨cs, h1, h2, h3, h4⟩ := h
 refine ⟨_, blk_set h1, by simpa using h2, fun j hj => ?_, fun j hj hjm => ?_⟩
 ·rw [Array.getElem?_setIfInBounds]
  by_cases c : m - 1 - k = j
  ·rw [if_pos c, if_pos (by omega)]; exact ⟨_, rfl⟩
  ·rw [if_neg c]; exact h3 j hj
 ·rw [Array.getElem?_setIfInBounds]
  by_cases c : m - 1 - k = j
  ·rw [if_pos c, if_pos (by omega), bigL_get hjm, show m - 1 - j = k by omega]
  ·rw [if_neg c]; exact h4 j (by omega) hjm
theorem BgB.done {B n m : Nat} {W : World} (h : BgB B n m m W) : W.heap[B]? = some (.cells (byC (bigL n m)).toArray 5 (0, 0)) := by
 obtain ⟨cs, h1, h2, h3, h4⟩ := h
 have e : cs = (byC (bigL n m)).toArray := by
  refine Array.ext_getElem? fun j => ?_
  have e : (byC (bigL n m)).toArray[j]? = (byC (bigL n m))[j]? := by simp
  rw [e]
  by_cases hj : j < m
  ·exact h4 j (by omega) hj
  ·rw [Array.getElem?_eq_none (by omega), List.getElem?_eq_none (by simp [byC, bigL_len]; omega)]
 rw [← e]
 exact h1
theorem made_u8 (K j : Nat) (hj : j < K) : (madeCells (Value.int .u8 0).cells K)[j]? = some (.int .u8 0) := by
 have hc1 : (Value.int .u8 0).cells = #[.int .u8 0] := rfl
 unfold madeCells
 rw [hc1, Array.getElem?_map, Array.getElem?_range, if_pos (by simpa using hj)]
 simp [Nat.mod_one]
theorem made_u8_size (K : Nat) : (madeCells (Value.int .u8 0).cells K).size = K := by
 have hc1 : (Value.int .u8 0).cells = #[.int .u8 0] := rfl
 unfold madeCells
 rw [hc1]
 simp
set_option maxHeartbeats 1000000 in
set_option maxRecDepth 20000 in
theorem big_any (n m : Nat) (hn : n < 18446744073709551616) (h1 : 1 ≤ m) (hm : m ≤ 8) (w : World) :
  Calls Tryz.prog 141 #[.int .u64 n, .int .i64 m] w fun e w' => e = .returned (.slice (some ⟨w.heap.size, 0, none⟩) m m) ∧ w'.heap[w.heap.size]? = some (.cells (byC (bigL n m)).toArray 5 (0, 0)) ∧ Below w.heap.size w w' := by
 obtain ⟨i0, hi0, hz0, hz1, hz2⟩ := info_parts info8
 have hmk := run_make (P := Tryz.prog) w 88 5 i0 (.int .u8 0) Tryz.underlying88 hi0 hz0 .i64 .i64 (m : Int) (m : Int) (by omega) (Int.le_refl _) (by rw [hz2]; omega) (by omega)
 rw [hz1] at hmk
 simp only [Int.toNat_natCast, Nat.mul_one] at hmk
 have hB0 : Hid (BgB w.heap.size n m 0 (w.alloc (.cells (madeCells (Value.int .u8 0).cells m) 5))) := ⟨_, blk_new w _, made_u8_size m, fun j hj => ⟨0, made_u8 m j hj⟩, fun j hj hjm => by omega⟩
 generalize madeCells (Value.int .u8 0).cells m = C at *
 clear hz0 hz1 hz2 hi0
 go_enter Tryz.func141, Tryz.ntmps141
 go_wp2_with fail
 go_loopw [0, 6] (fun v i wr => ∃ k : Nat, k ≤ m ∧ v = .int .u64 ((n / 256 ^ k : Nat) : Int) ∧ i = .int .i64 ((m : Int) - 1 - k) ∧ Hid (BgB w.heap.size n m k wr) ∧ Hid (Below w.heap.size w wr)) (fun _ i _ => (intOf i + 1).toNat)
 case atStart => exact ⟨0, by omega, by simp, by simp, hB0, Lib.hid bAl''⟩
 case round =>
  obtain ⟨k, hk, rfl, rfl, HB, HW⟩ := hrel
  by_cases hlt : k < m
  ·obtain ⟨⟨x, hc⟩, hf⟩ := HB.out.cell (show m - 1 - k < m by omega)
   have hnx := Lib.hid (HB.out.next hlt)
   have hge : (0 : Int) ≤ (m : Int) - 1 - k := by omega
   have hge2 : (m : Int) - 1 - k < m := by omega
   have ei : ((m : Int) - 1 - k) = ((m - 1 - k : Nat) : Int) := by omega
   have ei2 : ((m : Int) - 1 - k).toNat = m - 1 - k := by omega
   have hd2 := Lib.hid (show n / 256 ^ (k + 1) = n / 256 ^ k / 256 by rw [Nat.pow_succ, Nat.div_div_eq_div_mul])
   have hq : n / 256 ^ k < 18446744073709551616 := Nat.lt_of_le_of_lt (Nat.div_le_self _ _) hn
   generalize n / 256 ^ k = q at *
   have e1 : IntKind.u64.wrap ((q : Int).tdiv 256) = ((q / 256 : Nat) : Int) := by
    rw [Int.tdiv_eq_ediv_of_nonneg (by omega)]
    have := Go.IntWalk.u64_in ((q : Int) / 256) ⟨by omega, by omega⟩
    rw [this]; omega
   have e2 : (q : Int).tmod 256 % 256 = ((q % 256 : Nat) : Int) := by
    rw [Int.tmod_eq_emod_of_nonneg (by omega)]; omega
   have e3 : ((q % 256 : Nat) : Int) = (q : Int) % 256 := by omega
   have HWs := Lib.hid (HW.out.setCell (Nat.le_refl _) (p := ⟨w.heap.size, m - 1 - k, none⟩) (.int .u8 ((q % 256 : Nat) : Int)))
   go_wp2_with fail
   refine ⟨⟨k + 1, by omega, by rw [hd2.out]; push_cast; rfl, by rw [← ei]; congr 1; push_cast; omega, by rw [e3] at hnx; exact hnx, by rw [e3] at HWs; exact HWs⟩, ?_⟩
   rw [← ei]
   simp [intOf]
   omega
  ·obtain rfl : k = m := by omega
   have hge : ¬ (0 : Int) ≤ (k : Int) - 1 - k := by omega
   have hd := Lib.hid HB.out.done
   go_wp2_with fail
   exact bodyPost_ret (v := .slice (some ⟨w.heap.size, 0, none⟩) k k) (by simp only [results, Tryz.results141]; go_simp) rfl ⟨rfl, hd.out, HW.out⟩
end Go.Proofs.YtmpilgkfbibhlaaGreatDoor
namespace Go.Proofs.YtmpilgkfbibhlaaGreatDoor
open Go.RowKit
section
variable {P : Program} {ops : Array Oper} {Q : Exit → Act → World → Prop}
theorem put_inj {y : Act} {d : Nat} {v v' : Value} (hd : d < y.tmps.size) (h : y.put (some d) v = y.put (some d) v') : v = v' := by
 have := congrArg (fun a : Act => a.tmps[d]?) h
 simpa [Act.put, Array.getElem?_setIfInBounds, hd] using this
theorem upon_congr {o : Oper} {x y : Act} {d : Nat} {C : Value → World → Prop} {r : Result Next} (hd : o.dst = some d) (hy : d < y.tmps.size)
  (h : o.upon P y (fun a' w' => ∃ v, a' = y.put (some d) v ∧ C v w') (fun _ _ _ => False) r) : o.upon P x (fun a' w' => ∃ v, a' = x.put (some d) v ∧ C v w') Q r := by
 cases r with
 | ok n w' =>
  cases n with
  | value v =>
   simp only [Oper.upon, hd] at h ⊢
   obtain ⟨v', e, hC⟩ := h
   rw [← put_inj hy e] at hC
   exact ⟨v, rfl, hC⟩
  | skip =>
   simp only [Oper.upon, hd] at h ⊢
   obtain ⟨v', e, hC⟩ := h
   rw [← put_inj hy e] at hC
   exact ⟨_, rfl, hC⟩
  | «defer» df =>
   simp only [Oper.upon, hd] at h
   obtain ⟨v', e, hC⟩ := h
   have := congrArg Act.defers e
   simp [Act.put] at this
  | enter f args =>
   simp only [Oper.upon, hd] at h ⊢
   refine h.mono fun e w'' he => ?_
   cases e with
   | returned v =>
    obtain ⟨v', e, hC⟩ := he
    rw [← put_inj hy e] at hC
    exact ⟨_, rfl, hC⟩
   | panicked c => exact absurd he id
   | outgrown => obtain ⟨_, _, hf⟩ := he; exact absurd hf id
  | row rw_ args =>
   simp only [Oper.upon, hd] at h ⊢
   refine h.mono fun v w'' he => ?_
   obtain ⟨v', e, hC⟩ := he
   rw [← put_inj hy e] at hC
   exact ⟨_, rfl, hC⟩
  | _ => exact absurd h id
 | halt hh w' =>
  cases hh <;> exact absurd h id
def AllRd (Ob : Oper → Prop) (e1 e2 : Nat) : Nat → List Oper → Prop
 | _, [] => True
 | i, o :: l => (i ≠ e1 → i ≠ e2 → Ob o) ∧ AllRd Ob e1 e2 (i + 1) l
theorem AllRd.at_ {Ob : Oper → Prop} {e1 e2 : Nat} : ∀ {l : List Oper} {k : Nat}, AllRd Ob e1 e2 k l → ∀ (i : Nat) (o : Oper), l[i]? = some o → k + i ≠ e1 → k + i ≠ e2 → Ob o := by
 intro l
 induction l with
 | nil => intro _ _ i o h; simp at h
 | cons x l ih =>
  intro k h i o ho n1 n2
  cases i with
  | zero => simp at ho; subst ho; exact h.1 n1 n2
  | succ i => exact ih h.2 i o (by simpa using ho) (by omega) (by omega)
theorem put_at (a : Act) (d t : Nat) (v : Value) : (a.put (some d) v).tmps[t]? = if d = t then (if d < a.tmps.size then some v else none) else a.tmps[t]? := by
 simp only [Act.put, Array.getElem?_setIfInBounds]
theorem act_ext {p q : Act} (h1 : p.tmps = q.tmps) (h2 : p.defers = q.defers) : p = q := by
 obtain ⟨a, b⟩ := p
 obtain ⟨c, d⟩ := q
 dsimp only at h1 h2
 rw [h1, h2]
end
end Go.Proofs.YtmpilgkfbibhlaaGreatDoor
namespace Go.Proofs.YtmpilgkfbibhlaaGreatDoor
open Go.RowKit
section
variable {P : Program} {ops : Array Oper} {Q : Exit → Act → World → Prop}
theorem getD_someE {a : Act} {t : Nat} (h : t < a.tmps.size) : a.tmps[t]? = some (a.tmps.getD t undef) := by
 rw [Array.getD_eq_getD_getElem?, Array.getElem?_eq_getElem h]; rfl
theorem getD_noneE {a : Act} {t : Nat} (h : ¬ t < a.tmps.size) : a.tmps[t]? = none := by
 rw [Array.getElem?_eq_none_iff]; omega
def putE (a : Act) : List (Nat × Nat) → List Value → Act
 | e :: E, v :: vs => (putE a E vs).put (some e.2) v
 | _, _ => a
theorem putE_size (a : Act) : ∀ (E : List (Nat × Nat)) (vs : List Value), (putE a E vs).tmps.size = a.tmps.size
 | [], _ => by simp [putE]
 | _ :: _, [] => by simp [putE]
 | e :: E, v :: vs => by
  have := putE_size a E vs
  simpa [putE, Act.put] using this
theorem putE_defers (a : Act) : ∀ (E : List (Nat × Nat)) (vs : List Value), (putE a E vs).defers = a.defers
 | [], _ => by simp [putE]
 | _ :: _, [] => by simp [putE]
 | e :: E, v :: vs => by
  have := putE_defers a E vs
  simpa [putE, Act.put] using this
theorem putE_get (a x : Act) (hs : a.tmps.size = x.tmps.size) : ∀ (E : List (Nat × Nat)) (t : Nat), (putE a E (E.map fun e => x.tmps.getD e.2 undef)).tmps[t]? = if t ∈ E.map (·.2) then x.tmps[t]? else a.tmps[t]?
 | [], t => by simp [putE]
 | e :: E, t => by
  have ih := putE_get a x hs E t
  simp only [List.map_cons, putE]
  rw [put_at, putE_size]
  by_cases c : e.2 = t
  ·subst c
   rw [if_pos rfl, if_pos (List.mem_cons_self ..)]
   by_cases hlt : e.2 < x.tmps.size
   ·rw [if_pos (by omega), getD_someE hlt]
   ·rw [if_neg (by omega), getD_noneE hlt]
  ·rw [if_neg c, ih]
   have : (t ∈ e.2 :: E.map (·.2)) ↔ t ∈ E.map (·.2) := by
    rw [List.mem_cons]
    exact ⟨fun h => h.resolve_left (fun h => c h.symm), Or.inr⟩
   by_cases m : t ∈ E.map (·.2)
   ·rw [if_pos m, if_pos (this.2 m)]
   ·rw [if_neg m, if_neg (fun h => m (this.1 h))]
def efB (ops : Array Oper) (N f : Nat) (E : List (Nat × Nat)) (plan : List (Option Nat × List Nat)) : Bool :=
 ((List.range N).all fun i => match ops[i]?, plan[i]? with
 | some o, some p => o.guard.isNone && plainOp o.op && o.dst.isSome && (o.op.operands.all fun x => match x with
   | .tmp t => (E.map (·.2)).contains t || (List.range N).all fun j => decide (dstOf ops j ≠ some t) || (waits ops i).contains j
   | _ => true) && ((List.range N).all fun j => decide (j = i) || decide (dstOf ops j ≠ dstOf ops i)) &&
   (p.2.all fun k => match E[k]? with | some e => (waits ops i).contains e.1 || (waits ops i).any fun j => (ancs ops f j).contains e.1 | none => false) &&
   (match p.1 with | none => E.all fun e => decide (e.1 ≠ i) | some k => (match E[k]? with | some e => decide (e.1 = i) | none => false))
 | _, _ => false) &&
 ((List.range E.length).all fun k => match E[k]? with | some e => decide (e.1 < N) && decide (dstOf ops e.1 = some e.2) && decide ((plan[e.1]?).map (·.1) = some (some k)) | none => false)
structure EfAt (ops : Array Oper) (N f : Nat) (E : List (Nat × Nat)) (plan : List (Option Nat × List Nat)) (i : Nat) (o : Oper) (p : Option Nat × List Nat) : Prop where
 plan : plan[i]? = some p
 guard : o.guard = none
 sel : ∀ cs b, o.op ≠ .select cs b
 dst : ∃ d, o.dst = some d
 looks : ∀ t, Operand.tmp t ∈ o.op.operands → t ∈ E.map (·.2) ∨ ∀ j, j < N → dstOf ops j = some t → j ∈ waits ops i
 one : ∀ j, j < N → j ≠ i → dstOf ops j ≠ dstOf ops i
 need : ∀ k ∈ p.2, ∃ e, E[k]? = some e ∧ (e.1 ∈ waits ops i ∨ ∃ j ∈ waits ops i, e.1 ∈ ancs ops f j)
 no : p.1 = none → ∀ e ∈ E, e.1 ≠ i
 yes : ∀ k, p.1 = some k → ∃ e, E[k]? = some e ∧ e.1 = i
theorem ef_at {N f i : Nat} {E : List (Nat × Nat)} {plan : List (Option Nat × List Nat)} {o : Oper} (h : efB ops N f E plan = true) (hi : i < N) (ho : ops[i]? = some o) : ∃ p, EfAt ops N f E plan i o p := by
 unfold efB at h
 rw [Bool.and_eq_true] at h
 have h1 := List.all_eq_true.1 h.1 i (List.mem_range.2 hi)
 rw [ho] at h1
 cases hp : plan[i]? with
 | none => rw [hp] at h1; cases h1
 | some p =>
  rw [hp] at h1
  simp only [Bool.and_eq_true] at h1
  obtain ⟨⟨⟨⟨⟨⟨h1, h2⟩, h3⟩, h4⟩, h5⟩, h6⟩, h7⟩ := h1
  refine ⟨p, hp, by simpa using h1, ?_, Option.isSome_iff_exists.1 h3, ?_, ?_, ?_, ?_, ?_⟩
  ·intro cs b e; rw [e] at h2; simp [plainOp] at h2
  ·intro t ht
   rw [Array.all_eq_true'] at h4
   have h8 := h4 (.tmp t) ht
   simp only [Bool.or_eq_true] at h8
   rcases h8 with h8 | h8
   ·exact Or.inl (by simpa using h8)
   ·refine Or.inr fun j hj hd => ?_
    have h9 := List.all_eq_true.1 h8 j (List.mem_range.2 hj)
    simp only [Bool.or_eq_true, decide_eq_true_eq] at h9
    rcases h9 with h9 | h9
    ·exact absurd hd h9
    ·simpa using h9
  ·intro j hj hne
   have h8 := List.all_eq_true.1 h5 j (List.mem_range.2 hj)
   simp only [Bool.or_eq_true, decide_eq_true_eq] at h8
   rcases h8 with h8 | h8
   ·exact absurd h8 hne
   ·exact h8
  ·intro k hk
   have h8 := List.all_eq_true.1 h6 k hk
   cases he : E[k]? with
   | none => rw [he] at h8; cases h8
   | some e =>
    rw [he] at h8
    simp only [Bool.or_eq_true, List.any_eq_true] at h8
    refine ⟨e, rfl, ?_⟩
    rcases h8 with h8 | ⟨j, h8, h9⟩
    ·exact Or.inl (by simpa using h8)
    ·exact Or.inr ⟨j, h8, by simpa using h9⟩
  ·intro hn e he
   rw [hn] at h7
   simpa using List.all_eq_true.1 h7 e he
  ·intro k hk
   rw [hk] at h7
   simp only at h7
   cases he : E[k]? with
   | none => rw [he] at h7; cases h7
   | some e => rw [he] at h7; exact ⟨e, rfl, by simpa using h7⟩
theorem ef_eff {N f k : Nat} {E : List (Nat × Nat)} {plan : List (Option Nat × List Nat)} {e : Nat × Nat} (h : efB ops N f E plan = true) (he : E[k]? = some e) : e.1 < N ∧ dstOf ops e.1 = some e.2 ∧ (plan[e.1]?).map (·.1) = some (some k) := by
 unfold efB at h
 rw [Bool.and_eq_true] at h
 have hk : k < E.length := (List.getElem?_eq_some_iff.1 he).1
 have h1 := List.all_eq_true.1 h.2 k (List.mem_range.2 hk)
 rw [he] at h1
 simp only [Bool.and_eq_true, decide_eq_true_eq] at h1
 exact ⟨h1.1.1, h1.1.2, h1.2⟩
def RdE (P : Program) (St : List Bool → List Value → World → Prop) (AF : Act) (E : List (Nat × Nat)) (need : List Nat) (o : Oper) : Prop :=
 ∃ d v, o.dst = some d ∧ AF.tmps[d]? = some v ∧ ∀ bs vs W, bs.length = E.length → vs.length = E.length → (∀ k ∈ need, bs.getD k false = true) → St bs vs W →
  ∀ (K : Act → World → Prop) (Q : Exit → Act → World → Prop), (∀ W', St bs vs W' → K ((putE AF E vs).put (some d) v) W') → o.wp P (putE AF E vs) W K Q
def EfE (P : Program) (St : List Bool → List Value → World → Prop) (AF : Act) (E : List (Nat × Nat)) (k : Nat) (need : List Nat) (o : Oper) : Prop :=
 ∃ d, o.dst = some d ∧ ∀ bs vs W, bs.length = E.length → vs.length = E.length → (∀ k ∈ need, bs.getD k false = true) → bs.getD k false = false → St bs vs W →
  ∀ (K : Act → World → Prop) (Q : Exit → Act → World → Prop), (∀ v W', St (bs.set k true) (vs.set k v) W' → K ((putE AF E vs).put (some d) v) W') → o.wp P (putE AF E vs) W K Q
def AllE (R : List Nat → Oper → Prop) (F : Nat → List Nat → Oper → Prop) : List (Option Nat × List Nat) → List Oper → Prop
 | (none, nd) :: ks, o :: l => R nd o ∧ AllE R F ks l
 | (some k, nd) :: ks, o :: l => F k nd o ∧ AllE R F ks l
 | _, _ => True
theorem AllE.at_ {R : List Nat → Oper → Prop} {F : Nat → List Nat → Oper → Prop} : ∀ {ks : List (Option Nat × List Nat)} {l : List Oper}, AllE R F ks l → ∀ (i : Nat) (o : Oper) (p : Option Nat × List Nat), l[i]? = some o → ks[i]? = some p → (match p.1 with | none => R p.2 o | some k => F k p.2 o)
 | [], _, _, i, o, p, _, hp => by simp at hp
 | _ :: _, [], _, i, o, p, ho, _ => by simp at ho
 | (none, nd) :: ks, x :: l, h, 0, o, p, ho, hp => by
  simp only [List.getElem?_cons_zero, Option.some.injEq] at ho hp
  subst ho hp
  exact h.1
 | (some k, nd) :: ks, x :: l, h, 0, o, p, ho, hp => by
  simp only [List.getElem?_cons_zero, Option.some.injEq] at ho hp
  subst ho hp
  exact h.1
 | (none, nd) :: ks, x :: l, h, i + 1, o, p, ho, hp => AllE.at_ (ks := ks) (l := l) h.2 i o p (by simpa using ho) (by simpa using hp)
 | (some k, nd) :: ks, x :: l, h, i + 1, o, p, ho, hp => AllE.at_ (ks := ks) (l := l) h.2 i o p (by simpa using ho) (by simpa using hp)
theorem shut_anc {l : Array Bool} (hS : Shut ops l) {i f : Nat} {e : Nat} (hw : ∀ j ∈ waits ops i, l.getD j false = true) (h : e ∈ waits ops i ∨ ∃ j ∈ waits ops i, e ∈ ancs ops f j) : l.getD e false = true := by
 rcases h with h | ⟨j, hj, h⟩
 ·exact hw e h
 ·exact hS.anc f j (hw j hj) e h
theorem region_effs {id : Nat} {a : Act} {w : World} (N f : Nat) (E : List (Nat × Nat)) (plan : List (Option Nat × List Nat)) (vals : List (Nat × Value)) (St : List Bool → List Value → World → Prop) (hm : P.follows .mixedOrders = true) (he : early ops = true) (hs0 : ops.size = N + 1)
  (hA : ((List.range N).all fun j => (ancs ops f N).contains j) = true) (hH : efB ops N f E plan = true) (hsu : ∀ e ∈ E, e.2 < a.tmps.size)
  (hds : vals.map (fun p => some p.1) = ((List.range N).filter fun i => E.all fun e => decide (e.1 ≠ i)).map (dstOf ops))
  (h0 : ∀ vs, vs.length = E.length → St (E.map fun _ => false) vs w.drew) (each : AllE (RdE P St (updAll a vals) E) (EfE P St (updAll a vals) E) plan (ops.toList.take N))
  (tail : ∀ vs W, vs.length = E.length → St (E.map fun _ => true) vs W → wpOp P ops Q N (fun a2 w2 => Q .normal a2 w2) (putE (updAll a vals) E vs) W) :
  (Code.region id ops true).wp P Q a w := by
 have hA' : ∀ j, j < N → j ∈ ancs ops f N := fun j hj => by simpa using List.all_eq_true.1 hA j (List.mem_range.2 hj)
 have hidx : ∀ j, (E.all fun e => decide (e.1 ≠ j)) = true ↔ ∀ e ∈ E, e.1 ≠ j := fun j => by simp
 have hsame : ∀ t, (∀ j, j < N → (∀ e ∈ E, e.1 ≠ j) → dstOf ops j ≠ some t) → (updAll a vals).tmps[t]? = a.tmps[t]? := fun t ht => updAll_same _ _ _ fun p hp e => by
  have h1 : some p.1 ∈ vals.map (fun p => some p.1) := List.mem_map.2 ⟨p, hp, rfl⟩
  rw [hds] at h1
  obtain ⟨j, hj, hjd⟩ := List.mem_map.1 h1
  obtain ⟨hj1, hj2⟩ := List.mem_filter.1 hj
  exact ht j (List.mem_range.1 hj1) ((hidx j).1 hj2) (by rw [hjd, e])
 have hdf : (updAll a vals).defers = a.defers := updAll_defers _ _
 have hsz : (updAll a vals).tmps.size = a.tmps.size := updAll_size _ _
 have hob : ∀ i o p, i < N → ops[i]? = some o → plan[i]? = some p → (match p.1 with | none => RdE P St (updAll a vals) E p.2 o | some k => EfE P St (updAll a vals) E k p.2 o) := fun i o p hi ho hp => each.at_ i o p (by
  rw [List.getElem?_take_of_lt hi, Array.getElem?_toList]; exact ho) hp
 clear each
 generalize updAll a vals = AF at *
 refine region_inv hm he (fun l x W => l.size = ops.size ∧ Shut ops l ∧ ((l.getD N false = true ∧ Q .normal x W) ∨ (l.getD N true = false ∧ x.defers = a.defers ∧ x.tmps.size = a.tmps.size ∧
  (∀ j, j < N → (∀ e ∈ E, e.1 ≠ j) → l.getD j false = true → ∀ t, dstOf ops j = some t → x.tmps[t]? = AF.tmps[t]?) ∧
  (∀ t, (∀ j, j < N → dstOf ops j = some t → l.getD j false = false) → x.tmps[t]? = a.tmps[t]?) ∧ St (E.map fun e => l.getD e.1 false) (E.map fun e => x.tmps.getD e.2 undef) W))) ?_ (fun l a w h => h.1) ?_ ?_
 ·refine ⟨by simp, ?_, Or.inr ⟨?_, rfl, rfl, fun j hj _ h => ?_, fun _ _ => rfl, ?_⟩⟩
  ·intro i hi
   rw [Array.getD_eq_getD_getElem?] at hi
   by_cases h : i < ops.size <;> simp [h] at hi
  ·rw [Array.getD_eq_getD_getElem?]; simp [hs0]
  ·rw [Array.getD_eq_getD_getElem?] at h
   simp [hs0, show j < N + 1 by omega] at h
  ·have e : ∀ k, (Array.replicate ops.size false).getD k false = false := by
    intro k
    rw [Array.getD_eq_getD_getElem?]
    by_cases h : k < ops.size <;> simp [h]
   simp only [e]
   exact h0 _ (by simp)
 ·rintro i o ho l x W ⟨hs, hS, hJ⟩ hl hd
  have hio : i < ops.size := (Array.getElem?_eq_some_iff.1 ho).1
  have hil : i < l.size := by rw [hs]; exact hio
  have hw := waits_ok ho hd
  have hS2 := hS.set hil hw
  have hs2 : (l.setIfInBounds i true).size = ops.size := by simpa using hs
  rcases hJ with ⟨j1, _⟩ | ⟨jN, x1, x2, x3, x4, x5⟩
  ·rcases Nat.lt_or_ge i N with hi | hi
   ·exact absurd (hS.anc f N j1 i (hA' i hi)) (by rw [getD_tf hl]; decide)
   ·obtain rfl : i = N := by omega
    exact absurd j1 (by rw [getD_tf hl]; decide)
  have hFx := putE_get AF x (by rw [hsz, x2]) E
  rcases Nat.lt_or_ge i N with hi | hi
  ·obtain ⟨p, hC⟩ := ef_at hH hi ho
   obtain ⟨d, hd1⟩ := hC.dst
   have hdi : dstOf ops i = some d := by unfold dstOf; rw [ho]; exact hd1
   have hev : ∀ y ∈ o.op.operands, x.eval y = (putE AF E (E.map fun e => x.tmps.getD e.2 undef)).eval y := by
    intro y hy
    refine eval_same fun t ht => ?_
    subst ht
    rw [hFx]
    by_cases c1 : t ∈ E.map (·.2)
    ·rw [if_pos c1]
    ·rw [if_neg c1]
     rcases hC.looks t hy with c2 | c2
     ·exact absurd c2 c1
     by_cases hc : ∃ j, j < N ∧ dstOf ops j = some t
     ·obtain ⟨j, hj, hjt⟩ := hc
      refine x3 j hj (fun e heE hej => c1 ?_) (hw j (c2 j hj hjt)) t hjt
      obtain ⟨k, hk⟩ := List.getElem?_of_mem heE
      have q := (ef_eff hH hk).2.1
      rw [hej, hjt] at q
      exact List.mem_map.2 ⟨e, heE, (Option.some.inj q).symm⟩
     ·have hno : ∀ j, j < N → dstOf ops j ≠ some t := fun j hj e => hc ⟨j, hj, e⟩
      rw [x4 t (fun j hj e => absurd e (hno j hj)), hsame t (fun j hj _ => hno j hj)]
   have hex := execOp_congr o hC.sel hev
   have hneed : ∀ k ∈ p.2, (E.map fun e => l.getD e.1 false).getD k false = true := by
    intro k hk
    obtain ⟨e, he1, he2⟩ := hC.need k hk
    rw [List.getD_eq_getElem?_getD, List.getElem?_map, he1]
    exact shut_anc hS hw he2
   have hput : d < a.tmps.size → ∀ (C : Value → World → Prop), (∀ (K : Act → World → Prop) (Q : Exit → Act → World → Prop), (∀ v W', C v W' → K ((putE AF E (E.map fun e => x.tmps.getD e.2 undef)).put (some d) v) W') → o.wp P (putE AF E (E.map fun e => x.tmps.getD e.2 undef)) W K Q) → wpOp P ops Q i (fun a' w' => ∃ v, a' = x.put (some d) v ∧ C v w') x W := by
    intro hdlt C hC2
    unfold wpOp
    rw [ho]
    simp only [Region.wanted, hC.guard, if_true]
    refine Or.inl ?_
    have h1 := hC2 (fun a' w' => ∃ v, a' = (putE AF E (E.map fun e => x.tmps.getD e.2 undef)).put (some d) v ∧ C v w') (fun _ _ _ => False) (fun v W' h => ⟨v, rfl, h⟩)
    unfold Oper.wp at h1 ⊢
    rw [hex]
    exact upon_congr hd1 (by rw [putE_size, hsz]; exact hdlt) h1
   have hgd : d < a.tmps.size → ∀ (v : Value) (t : Nat), (x.put (some d) v).tmps.getD t undef = if d = t then v else x.tmps.getD t undef := by
    intro hdlt v t
    rw [Array.getD_eq_getD_getElem?, put_at]
    by_cases e : d = t
    ·rw [if_pos e, if_pos e, if_pos (by rw [x2]; exact hdlt)]; rfl
    ·rw [if_neg e, if_neg e, Array.getD_eq_getD_getElem?]
   have hfr : d < a.tmps.size → ∀ v W', (p.1 = none → AF.tmps[d]? = some v) → St (E.map fun e => (l.setIfInBounds i true).getD e.1 false) (E.map fun e => (x.put (some d) v).tmps.getD e.2 undef) W' →
     ((l.setIfInBounds i true).size = ops.size ∧ Shut ops (l.setIfInBounds i true) ∧ (((l.setIfInBounds i true).getD N false = true ∧ Q .normal (x.put (some d) v) W') ∨ ((l.setIfInBounds i true).getD N true = false ∧ (x.put (some d) v).defers = a.defers ∧ (x.put (some d) v).tmps.size = a.tmps.size ∧
  (∀ j, j < N → (∀ e ∈ E, e.1 ≠ j) → (l.setIfInBounds i true).getD j false = true → ∀ t, dstOf ops j = some t → (x.put (some d) v).tmps[t]? = AF.tmps[t]?) ∧
  (∀ t, (∀ j, j < N → dstOf ops j = some t → (l.setIfInBounds i true).getD j false = false) → (x.put (some d) v).tmps[t]? = a.tmps[t]?) ∧ St (E.map fun e => (l.setIfInBounds i true).getD e.1 false) (E.map fun e => (x.put (some d) v).tmps.getD e.2 undef) W'))) := by
    intro hdlt v W' hv hSt
    have hlt : d < x.tmps.size := by rw [x2]; exact hdlt
    refine ⟨hs2, hS2, Or.inr ⟨?_, x1, by simpa [Act.put] using x2, ?_, ?_, hSt⟩⟩
    ·rw [getD_set1 hil, if_neg (by omega)]; exact jN
    ·intro j hj m1 hjl t hjt
     rw [put_at]
     by_cases e : d = t
     ·subst e
      rw [if_pos rfl, if_pos hlt]
      have hji : j = i := Classical.byContradiction fun c => hC.one j hj c (by rw [hjt, hdi])
      subst hji
      refine (hv ?_).symm
      cases hp : p.1 with
      | none => rfl
      | some k => obtain ⟨e, he1, he2⟩ := hC.yes k hp; exact absurd he2 (m1 e (List.mem_of_getElem? he1))
     ·rw [if_neg e]
      have hji : j ≠ i := fun c => by subst c; rw [hdi] at hjt; exact e (Option.some.inj hjt)
      rw [getD_set1 hil, if_neg (fun c => hji c.symm)] at hjl
      exact x3 j hj m1 hjl t hjt
    ·intro t ht
     rw [put_at]
     have hdt : d ≠ t := fun c => by
      subst c
      have := ht i hi hdi
      rw [getD_set1 hil, if_pos rfl] at this
      cases this
     rw [if_neg hdt]
     refine x4 t fun j hj hjt => ?_
     have := ht j hj hjt
     rw [getD_set1 hil] at this
     split at this
     ·cases this
     ·exact this
   have hO := hob i o p hi ho hC.plan
   obtain ⟨pk, nd⟩ := p
   cases pk with
   | none =>
    obtain ⟨d', v, g1, g2, g3⟩ := hO
    rw [hd1] at g1
    obtain rfl : d = d' := Option.some.inj g1
    have hdlt : d < a.tmps.size := by
     have := (Array.getElem?_eq_some_iff.1 g2).1
     rw [hsz] at this
     exact this
    have hE := hC.no rfl
    refine wpOp_mono ?_ (hput hdlt (fun v' W' => v' = v ∧ St (E.map fun e => l.getD e.1 false) (E.map fun e => x.tmps.getD e.2 undef) W') (fun K Q hK => g3 _ _ W (by simp) (by simp) hneed x5 K Q (fun W' h => hK v W' ⟨rfl, h⟩)))
    rintro a' w' ⟨v', rfl, rfl, hv⟩
    refine hfr hdlt v' w' (fun _ => g2) ?_
    have q1 : (E.map fun e => (l.setIfInBounds i true).getD e.1 false) = E.map fun e => l.getD e.1 false := List.map_congr_left fun e he => by
     rw [getD_set1 hil, if_neg (fun c => hE e he c.symm)]
    have q2 : (E.map fun e => (x.put (some d) v').tmps.getD e.2 undef) = E.map fun e => x.tmps.getD e.2 undef := List.map_congr_left fun e he => by
     obtain ⟨k, hk⟩ := List.getElem?_of_mem he
     have q := ef_eff hH hk
     rw [hgd hdlt, if_neg (fun c => hC.one e.1 q.1 (hE e he) (by rw [q.2.1, hdi, c]))]
    rw [q1, q2]
    exact hv
   | some k =>
    obtain ⟨d', g1, g3⟩ := hO
    rw [hd1] at g1
    obtain rfl : d = d' := Option.some.inj g1
    obtain ⟨ek, hk, hek⟩ := hC.yes k rfl
    have qk := ef_eff hH hk
    have hde : d = ek.2 := by
     have := qk.2.1
     rw [hek, hdi] at this
     exact Option.some.inj this
    have hdlt : d < a.tmps.size := by rw [hde]; exact hsu ek (List.mem_of_getElem? hk)
    have hbk : (E.map fun e => l.getD e.1 false).getD k false = false := by
     rw [List.getD_eq_getElem?_getD, List.getElem?_map, hk]
     show l.getD ek.1 false = false
     rw [hek]
     exact getD_tf hl
    refine wpOp_mono ?_ (hput hdlt (fun v' W' => St ((E.map fun e => l.getD e.1 false).set k true) ((E.map fun e => x.tmps.getD e.2 undef).set k v') W') (fun K Q hK => g3 _ _ W (by simp) (by simp) hneed hbk x5 K Q hK))
    rintro a' w' ⟨v', rfl, hv⟩
    refine hfr hdlt v' w' (fun c => by cases c) ?_
    have hkl : k < E.length := (List.getElem?_eq_some_iff.1 hk).1
    have hm : ∀ m e, E[m]? = some e → e.1 = i → m = k := by
     intro m e hme h
     have q := (ef_eff hH hme).2.2
     have q' := qk.2.2
     rw [h] at q
     rw [hek, q] at q'
     exact Option.some.inj (Option.some.inj q')
    have q1 : (E.map fun e => (l.setIfInBounds i true).getD e.1 false) = (E.map fun e => l.getD e.1 false).set k true := by
     refine List.ext_getElem? fun m => ?_
     rw [List.getElem?_set, List.getElem?_map, List.getElem?_map]
     cases hE : E[m]? with
     | none =>
      have : E.length ≤ m := List.getElem?_eq_none_iff.1 hE
      rw [if_neg (by omega)]; rfl
     | some e =>
      simp only [Option.map_some]
      rw [getD_set1 hil]
      by_cases c : k = m
      ·subst c
       rw [hk] at hE
       obtain rfl := Option.some.inj hE
       rw [if_pos hek.symm, if_pos rfl, if_pos (by simpa using hkl)]
      ·rw [if_neg (fun h => c (hm m e hE h.symm).symm), if_neg c]
    have q2 : (E.map fun e => (x.put (some d) v').tmps.getD e.2 undef) = (E.map fun e => x.tmps.getD e.2 undef).set k v' := by
     refine List.ext_getElem? fun m => ?_
     rw [List.getElem?_set, List.getElem?_map, List.getElem?_map]
     cases hE : E[m]? with
     | none =>
      have : E.length ≤ m := List.getElem?_eq_none_iff.1 hE
      rw [if_neg (by omega)]; rfl
     | some e =>
      simp only [Option.map_some]
      rw [hgd hdlt]
      by_cases c : k = m
      ·subst c
       rw [hk] at hE
       obtain rfl := Option.some.inj hE
       rw [if_pos hde, if_pos rfl, if_pos (by simpa using hkl)]
      ·have hne : e.1 ≠ i := fun h => c (hm m e hE h).symm
       have q := ef_eff hH hE
       rw [if_neg (fun h => hC.one e.1 q.1 hne (by rw [q.2.1, hdi, h])), if_neg c]
    rw [q1, q2]
    exact hv
  ·obtain rfl : i = N := by omega
   have hall : ∀ j, j < i → l.getD j false = true := by
    intro j hj
    have := hS2.anc f i (by rw [getD_set1 hil, if_pos rfl]) j (hA' j hj)
    rwa [getD_set1 hil, if_neg (by omega)] at this
   have q1 : (E.map fun e => l.getD e.1 false) = E.map fun _ => true := List.map_congr_left fun e he => by
    obtain ⟨k, hk⟩ := List.getElem?_of_mem he
    exact hall e.1 (ef_eff hH hk).1
   rw [q1] at x5
   have hx : x = putE AF E (E.map fun e => x.tmps.getD e.2 undef) := by
    refine act_ext (Array.ext_getElem? fun t => ?_) (by rw [putE_defers, hdf, x1])
    rw [hFx]
    by_cases c1 : t ∈ E.map (·.2)
    ·rw [if_pos c1]
    ·rw [if_neg c1]
     by_cases hc : ∃ j, j < i ∧ dstOf ops j = some t
     ·obtain ⟨j, hj, hjt⟩ := hc
      refine x3 j hj (fun e heE hej => c1 ?_) (hall j hj) t hjt
      obtain ⟨k, hk⟩ := List.getElem?_of_mem heE
      have q := (ef_eff hH hk).2.1
      rw [hej, hjt] at q
      exact List.mem_map.2 ⟨e, heE, (Option.some.inj q).symm⟩
     ·have hno : ∀ j, j < i → dstOf ops j ≠ some t := fun j hj e => hc ⟨j, hj, e⟩
      rw [x4 t (fun j hj e => absurd e (hno j hj)), hsame t (fun j hj _ => hno j hj)]
   have ht := tail _ W (by simp) x5
   rw [← hx] at ht
   refine wpOp_mono ?_ ht
   intro a' w' h
   exact ⟨hs2, hS2, Or.inl ⟨by rw [getD_set1 hil, if_pos rfl], h⟩⟩
 ·rintro l x W ⟨hs, hS, hJ⟩ hall
  rcases hJ with ⟨_, j⟩ | ⟨j, _⟩
  ·exact j
  ·rw [hall N (by omega)] at j; cases j
theorem len_one {α : Type} {n : Nat} {l : List α} (h : l.length = n + 1) : ∃ x m, l = x :: m ∧ m.length = n := by
 cases l with
 | nil => simp at h
 | cons x m => exact ⟨x, m, rfl, by simpa using h⟩
theorem len_nil {α : Type} {l : List α} (h : l.length = 0) : l = [] := List.length_eq_zero_iff.1 h
end
end Go.Proofs.YtmpilgkfbibhlaaGreatDoor
namespace Go.Proofs.YtmpilgkfbibhlaaGreatDoor
open Go.RowKit
section
variable {P : Program} {ops : Array Oper} {Q : Exit → Act → World → Prop}
def egB (ops : Array Oper) (N f z : Nat) (E : List (Nat × Nat)) (plan : List (Option Nat × List Nat)) : Bool :=
 ((List.range N).all fun i => match ops[i]?, plan[i]? with
 | some o, some p => o.guard.isNone && plainOp o.op && (o.op.operands.all fun x => match x with
   | .tmp t => (E.map (·.2)).contains t || (List.range N).all fun j => decide (dstOf ops j ≠ some t) || (waits ops i).contains j
   | _ => true) && ((List.range N).all fun j => decide (j = i) || decide (dstOf ops j = none) || decide (dstOf ops j ≠ dstOf ops i)) &&
   (p.2.all fun k => match E[k]? with | some e => (waits ops i).contains e.1 || (waits ops i).any fun j => (ancs ops f j).contains e.1 | none => false) &&
   (match p.1 with | none => E.all fun e => decide (e.1 ≠ i) | some k => (match E[k]? with | some e => decide (e.1 = i) | none => false))
 | _, _ => false) &&
 ((List.range E.length).all fun k => match E[k]? with | some e => decide (e.1 < N) && (decide (dstOf ops e.1 = some e.2) && decide (e.2 < z) || decide (dstOf ops e.1 = none) && decide (z ≤ e.2)) && decide ((plan[e.1]?).map (·.1) = some (some k)) | none => false)
structure EgAt (ops : Array Oper) (N f : Nat) (E : List (Nat × Nat)) (plan : List (Option Nat × List Nat)) (i : Nat) (o : Oper) (p : Option Nat × List Nat) : Prop where
 plan : plan[i]? = some p
 guard : o.guard = none
 sel : ∀ cs b, o.op ≠ .select cs b
 looks : ∀ t, Operand.tmp t ∈ o.op.operands → t ∈ E.map (·.2) ∨ ∀ j, j < N → dstOf ops j = some t → j ∈ waits ops i
 one : ∀ j, j < N → j ≠ i → dstOf ops j = none ∨ dstOf ops j ≠ dstOf ops i
 need : ∀ k ∈ p.2, ∃ e, E[k]? = some e ∧ (e.1 ∈ waits ops i ∨ ∃ j ∈ waits ops i, e.1 ∈ ancs ops f j)
 no : p.1 = none → ∀ e ∈ E, e.1 ≠ i
 yes : ∀ k, p.1 = some k → ∃ e, E[k]? = some e ∧ e.1 = i
theorem eg_at {N f z i : Nat} {E : List (Nat × Nat)} {plan : List (Option Nat × List Nat)} {o : Oper} (h : egB ops N f z E plan = true) (hi : i < N) (ho : ops[i]? = some o) : ∃ p, EgAt ops N f E plan i o p := by
 unfold egB at h
 rw [Bool.and_eq_true] at h
 have h1 := List.all_eq_true.1 h.1 i (List.mem_range.2 hi)
 rw [ho] at h1
 cases hp : plan[i]? with
 | none => rw [hp] at h1; cases h1
 | some p =>
  rw [hp] at h1
  simp only [Bool.and_eq_true] at h1
  obtain ⟨⟨⟨⟨⟨h1, h2⟩, h4⟩, h5⟩, h6⟩, h7⟩ := h1
  refine ⟨p, hp, by simpa using h1, ?_, ?_, ?_, ?_, ?_, ?_⟩
  ·intro cs b e; rw [e] at h2; simp [plainOp] at h2
  ·intro t ht
   rw [Array.all_eq_true'] at h4
   have h8 := h4 (.tmp t) ht
   simp only [Bool.or_eq_true] at h8
   rcases h8 with h8 | h8
   ·exact Or.inl (by simpa using h8)
   ·refine Or.inr fun j hj hd => ?_
    have h9 := List.all_eq_true.1 h8 j (List.mem_range.2 hj)
    simp only [Bool.or_eq_true, decide_eq_true_eq] at h9
    rcases h9 with h9 | h9
    ·exact absurd hd h9
    ·simpa using h9
  ·intro j hj hne
   have h8 := List.all_eq_true.1 h5 j (List.mem_range.2 hj)
   simp only [Bool.or_eq_true, decide_eq_true_eq] at h8
   rcases h8 with (h8 | h8) | h8
   ·exact absurd h8 hne
   ·exact Or.inl h8
   ·exact Or.inr h8
  ·intro k hk
   have h8 := List.all_eq_true.1 h6 k hk
   cases he : E[k]? with
   | none => rw [he] at h8; cases h8
   | some e =>
    rw [he] at h8
    simp only [Bool.or_eq_true, List.any_eq_true] at h8
    refine ⟨e, rfl, ?_⟩
    rcases h8 with h8 | ⟨j, h8, h9⟩
    ·exact Or.inl (by simpa using h8)
    ·exact Or.inr ⟨j, h8, by simpa using h9⟩
  ·intro hn e he
   rw [hn] at h7
   simpa using List.all_eq_true.1 h7 e he
  ·intro k hk
   rw [hk] at h7
   simp only at h7
   cases he : E[k]? with
   | none => rw [he] at h7; cases h7
   | some e => rw [he] at h7; exact ⟨e, rfl, by simpa using h7⟩
theorem eg_eff {N f z k : Nat} {E : List (Nat × Nat)} {plan : List (Option Nat × List Nat)} {e : Nat × Nat} (h : egB ops N f z E plan = true) (he : E[k]? = some e) : e.1 < N ∧ (dstOf ops e.1 = some e.2 ∧ e.2 < z ∨ dstOf ops e.1 = none ∧ z ≤ e.2) ∧ (plan[e.1]?).map (·.1) = some (some k) := by
 unfold egB at h
 rw [Bool.and_eq_true] at h
 have hk : k < E.length := (List.getElem?_eq_some_iff.1 he).1
 have h1 := List.all_eq_true.1 h.2 k (List.mem_range.2 hk)
 rw [he] at h1
 simp only [Bool.and_eq_true, Bool.or_eq_true, decide_eq_true_eq] at h1
 exact ⟨h1.1.1, h1.1.2, h1.2⟩
def EfG (P : Program) (St : List Bool → List Value → World → Prop) (AF : Act) (E : List (Nat × Nat)) (k : Nat) (need : List Nat) (o : Oper) : Prop :=
 (∃ d, o.dst = some d ∧ ∀ bs vs W, bs.length = E.length → vs.length = E.length → (∀ k ∈ need, bs.getD k false = true) → bs.getD k false = false → St bs vs W →
  ∀ (K : Act → World → Prop) (Q : Exit → Act → World → Prop), (∀ v W', St (bs.set k true) (vs.set k v) W' → K ((putE AF E vs).put (some d) v) W') → o.wp P (putE AF E vs) W K Q) ∨
 (o.dst = none ∧ ∀ bs vs W, bs.length = E.length → vs.length = E.length → (∀ k ∈ need, bs.getD k false = true) → bs.getD k false = false → St bs vs W →
  ∀ (K : Act → World → Prop) (Q : Exit → Act → World → Prop), (∀ W', St (bs.set k true) vs W' → K (putE AF E vs) W') → o.wp P (putE AF E vs) W K Q)
theorem upon_congr0 {o : Oper} {x y : Act} {C : World → Prop} {r : Result Next} (hd : o.dst = none)
  (h : o.upon P y (fun a' w' => a' = y ∧ C w') (fun _ _ _ => False) r) : o.upon P x (fun a' w' => a' = x ∧ C w') Q r := by
 cases r with
 | ok n w' =>
  cases n with
  | value v =>
   simp only [Oper.upon, hd] at h ⊢
   exact ⟨rfl, h.2⟩
  | skip =>
   simp only [Oper.upon, hd] at h ⊢
   exact ⟨rfl, h.2⟩
  | «defer» df =>
   simp only [Oper.upon, hd] at h
   have := congrArg Act.defers h.1
   simp [Act.put] at this
  | enter f args =>
   simp only [Oper.upon, hd] at h ⊢
   refine h.mono fun e w'' he => ?_
   cases e with
   | returned v => exact ⟨rfl, he.2⟩
   | panicked c => exact absurd he id
   | outgrown => obtain ⟨_, _, hf⟩ := he; exact absurd hf id
  | row rw_ args =>
   simp only [Oper.upon, hd] at h ⊢
   refine h.mono fun v w'' he => ?_
   exact ⟨rfl, he.2⟩
  | _ => exact absurd h id
 | halt hh w' =>
  cases hh <;> exact absurd h id
theorem shut_ancG {l : Array Bool} (hS : Shut ops l) {i f : Nat} {e : Nat} (hw : ∀ j ∈ waits ops i, l.getD j false = true) (h : e ∈ waits ops i ∨ ∃ j ∈ waits ops i, e ∈ ancs ops f j) : l.getD e false = true := by
 rcases h with h | ⟨j, hj, h⟩
 ·exact hw e h
 ·exact hS.anc f j (hw j hj) e h
theorem region_all {id : Nat} {a : Act} {w : World} (N f z : Nat) (E : List (Nat × Nat)) (plan : List (Option Nat × List Nat)) (vals : List (Nat × Value)) (St : List Bool → List Value → World → Prop) (hm : P.follows .mixedOrders = true) (he : early ops = true) (hs0 : ops.size = N) (hz : a.tmps.size = z)
  (hH : egB ops N f z E plan = true)
  (hds : vals.map (fun p => some p.1) = ((List.range N).filter fun i => E.all fun e => decide (e.1 ≠ i)).map (dstOf ops))
  (h0 : ∀ vs, vs.length = E.length → St (E.map fun _ => false) vs w.drew) (each : AllE (RdE P St (updAll a vals) E) (EfG P St (updAll a vals) E) plan ops.toList)
  (done : ∀ vs W, vs.length = E.length → St (E.map fun _ => true) vs W → Q .normal (putE (updAll a vals) E vs) W) :
  (Code.region id ops true).wp P Q a w := by
 have hidx : ∀ j, (E.all fun e => decide (e.1 ≠ j)) = true ↔ ∀ e ∈ E, e.1 ≠ j := fun j => by simp
 have hsame : ∀ t, (∀ j, j < N → (∀ e ∈ E, e.1 ≠ j) → dstOf ops j ≠ some t) → (updAll a vals).tmps[t]? = a.tmps[t]? := fun t ht => updAll_same _ _ _ fun p hp e => by
  have h1 : some p.1 ∈ vals.map (fun p => some p.1) := List.mem_map.2 ⟨p, hp, rfl⟩
  rw [hds] at h1
  obtain ⟨j, hj, hjd⟩ := List.mem_map.1 h1
  obtain ⟨hj1, hj2⟩ := List.mem_filter.1 hj
  exact ht j (List.mem_range.1 hj1) ((hidx j).1 hj2) (by rw [hjd, e])
 have hdf : (updAll a vals).defers = a.defers := updAll_defers _ _
 have hsz : (updAll a vals).tmps.size = a.tmps.size := updAll_size _ _
 have hob : ∀ (i : Nat) (o : Oper) (p : Option Nat × List Nat), ops[i]? = some o → plan[i]? = some p → (match p.1 with | none => RdE P St (updAll a vals) E p.2 o | some k => EfG P St (updAll a vals) E k p.2 o) := fun i o p ho hp => each.at_ i o p (by
  rw [Array.getElem?_toList]; exact ho) hp
 clear each
 generalize updAll a vals = AF at *
 refine region_inv hm he (fun l x W => l.size = ops.size ∧ Shut ops l ∧ x.defers = a.defers ∧ x.tmps.size = a.tmps.size ∧
  (∀ j, j < N → (∀ e ∈ E, e.1 ≠ j) → l.getD j false = true → ∀ t, dstOf ops j = some t → x.tmps[t]? = AF.tmps[t]?) ∧
  (∀ t, (∀ j, j < N → dstOf ops j = some t → l.getD j false = false) → x.tmps[t]? = a.tmps[t]?) ∧ St (E.map fun e => l.getD e.1 false) (E.map fun e => x.tmps.getD e.2 undef) W) ?_ (fun l a w h => h.1) ?_ ?_
 ·refine ⟨by simp, ?_, rfl, rfl, fun j hj _ h => ?_, fun _ _ => rfl, ?_⟩
  ·intro i hi
   rw [Array.getD_eq_getD_getElem?] at hi
   by_cases h : i < ops.size <;> simp [h] at hi
  ·rw [Array.getD_eq_getD_getElem?] at h
   simp [hs0, hj] at h
  ·have e : ∀ k, (Array.replicate ops.size false).getD k false = false := by
    intro k
    rw [Array.getD_eq_getD_getElem?]
    by_cases h : k < ops.size <;> simp [h]
   simp only [e]
   exact h0 _ (by simp)
 ·rintro i o ho l x W ⟨hs, hS, x1, x2, x3, x4, x5⟩ hl hd
  have hio : i < ops.size := (Array.getElem?_eq_some_iff.1 ho).1
  have hil : i < l.size := by rw [hs]; exact hio
  have hi : i < N := by omega
  have hw := waits_ok ho hd
  have hS2 := hS.set hil hw
  have hs2 : (l.setIfInBounds i true).size = ops.size := by simpa using hs
  have hFx := putE_get AF x (by rw [hsz, x2]) E
  obtain ⟨p, hC⟩ := eg_at hH hi ho
  have hev : ∀ y ∈ o.op.operands, x.eval y = (putE AF E (E.map fun e => x.tmps.getD e.2 undef)).eval y := by
   intro y hy
   refine eval_same fun t ht => ?_
   subst ht
   rw [hFx]
   by_cases c1 : t ∈ E.map (·.2)
   ·rw [if_pos c1]
   ·rw [if_neg c1]
    rcases hC.looks t hy with c2 | c2
    ·exact absurd c2 c1
    by_cases hc : ∃ j, j < N ∧ dstOf ops j = some t
    ·obtain ⟨j, hj, hjt⟩ := hc
     refine x3 j hj (fun e heE hej => c1 ?_) (hw j (c2 j hj hjt)) t hjt
     obtain ⟨k, hk⟩ := List.getElem?_of_mem heE
     rcases (eg_eff hH hk).2.1 with ⟨q, -⟩ | ⟨q, -⟩
     ·rw [hej, hjt] at q
      exact List.mem_map.2 ⟨e, heE, (Option.some.inj q).symm⟩
     ·rw [hej, hjt] at q
      cases q
    ·have hno : ∀ j, j < N → dstOf ops j ≠ some t := fun j hj e => hc ⟨j, hj, e⟩
     rw [x4 t (fun j hj e => absurd e (hno j hj)), hsame t (fun j hj _ => hno j hj)]
  have hex := execOp_congr o hC.sel hev
  have hneed : ∀ k ∈ p.2, (E.map fun e => l.getD e.1 false).getD k false = true := by
   intro k hk
   obtain ⟨e, he1, he2⟩ := hC.need k hk
   rw [List.getD_eq_getElem?_getD, List.getElem?_map, he1]
   exact shut_ancG hS hw he2
  have hO := hob i o p ho hC.plan
  cases hdo : o.dst with
  | none =>
   have hdi : dstOf ops i = none := by unfold dstOf; rw [ho]; exact hdo
   obtain ⟨pk, nd⟩ := p
   cases pk with
   | none =>
    obtain ⟨d', v, g1, -⟩ := hO
    rw [hdo] at g1
    cases g1
   | some k =>
    rcases hO with ⟨d', g1, -⟩ | ⟨-, g3⟩
    ·rw [hdo] at g1
     cases g1
    obtain ⟨ek, hk, hek⟩ := hC.yes k rfl
    have qk := eg_eff hH hk
    have hbk : (E.map fun e => l.getD e.1 false).getD k false = false := by
     rw [List.getD_eq_getElem?_getD, List.getElem?_map, hk]
     show l.getD ek.1 false = false
     rw [hek]
     exact getD_tf hl
    have hkl : k < E.length := (List.getElem?_eq_some_iff.1 hk).1
    have hm : ∀ m e, E[m]? = some e → e.1 = i → m = k := by
     intro m e hme h
     have q := (eg_eff hH hme).2.2
     have q' := qk.2.2
     rw [h] at q
     rw [hek, q] at q'
     exact Option.some.inj (Option.some.inj q')
    have q1 : (E.map fun e => (l.setIfInBounds i true).getD e.1 false) = (E.map fun e => l.getD e.1 false).set k true := by
     refine List.ext_getElem? fun m => ?_
     rw [List.getElem?_set, List.getElem?_map, List.getElem?_map]
     cases hE : E[m]? with
     | none =>
      have : E.length ≤ m := List.getElem?_eq_none_iff.1 hE
      rw [if_neg (by omega)]; rfl
     | some e =>
      simp only [Option.map_some]
      rw [getD_set1 hil]
      by_cases c : k = m
      ·subst c
       rw [hk] at hE
       obtain rfl := Option.some.inj hE
       rw [if_pos hek.symm, if_pos rfl, if_pos (by simpa using hkl)]
      ·rw [if_neg (fun h => c (hm m e hE h.symm).symm), if_neg c]
    unfold wpOp
    rw [ho]
    simp only [Region.wanted, hC.guard, if_true]
    refine Or.inl ?_
    have h1 := g3 _ _ W (by simp) (by simp) hneed hbk x5 (fun a' w' => a' = putE AF E (E.map fun e => x.tmps.getD e.2 undef) ∧ St ((E.map fun e => l.getD e.1 false).set k true) (E.map fun e => x.tmps.getD e.2 undef) w') (fun _ _ _ => False) (fun W' h => ⟨rfl, h⟩)
    have h2 : o.wp P x W (fun a' w' => a' = x ∧ St ((E.map fun e => l.getD e.1 false).set k true) (E.map fun e => x.tmps.getD e.2 undef) w') Q := by
     unfold Oper.wp at h1 ⊢
     rw [hex]
     exact upon_congr0 hdo h1
    refine Oper.wp_mono ?_ h2
    rintro a' w' ⟨rfl, hv⟩
    refine ⟨hs2, hS2, x1, x2, ?_, ?_, ?_⟩
    ·intro j hj m1 hjl t hjt
     have hji : j ≠ i := fun c => by subst c; rw [hdi] at hjt; cases hjt
     rw [getD_set1 hil, if_neg (fun c => hji c.symm)] at hjl
     exact x3 j hj m1 hjl t hjt
    ·intro t ht
     refine x4 t fun j hj hjt => ?_
     have := ht j hj hjt
     rw [getD_set1 hil] at this
     split at this
     ·cases this
     ·exact this
    ·rw [q1]
     exact hv
  | some d =>
   have hd1 := hdo
   have hdi : dstOf ops i = some d := by unfold dstOf; rw [ho]; exact hd1
   have hput : d < a.tmps.size → ∀ (C : Value → World → Prop), (∀ (K : Act → World → Prop) (Q : Exit → Act → World → Prop), (∀ v W', C v W' → K ((putE AF E (E.map fun e => x.tmps.getD e.2 undef)).put (some d) v) W') → o.wp P (putE AF E (E.map fun e => x.tmps.getD e.2 undef)) W K Q) → wpOp P ops Q i (fun a' w' => ∃ v, a' = x.put (some d) v ∧ C v w') x W := by
    intro hdlt C hC2
    unfold wpOp
    rw [ho]
    simp only [Region.wanted, hC.guard, if_true]
    refine Or.inl ?_
    have h1 := hC2 (fun a' w' => ∃ v, a' = (putE AF E (E.map fun e => x.tmps.getD e.2 undef)).put (some d) v ∧ C v w') (fun _ _ _ => False) (fun v W' h => ⟨v, rfl, h⟩)
    unfold Oper.wp at h1 ⊢
    rw [hex]
    exact upon_congr hd1 (by rw [putE_size, hsz]; exact hdlt) h1
   have hgd : d < a.tmps.size → ∀ (v : Value) (t : Nat), (x.put (some d) v).tmps.getD t undef = if d = t then v else x.tmps.getD t undef := by
    intro hdlt v t
    rw [Array.getD_eq_getD_getElem?, put_at]
    by_cases e : d = t
    ·rw [if_pos e, if_pos e, if_pos (by rw [x2]; exact hdlt)]; rfl
    ·rw [if_neg e, if_neg e, Array.getD_eq_getD_getElem?]
   have hother : d < a.tmps.size → ∀ e ∈ E, e.1 ≠ i → d ≠ e.2 := by
    intro hdlt e heE hne c
    obtain ⟨k, hk⟩ := List.getElem?_of_mem heE
    have q := eg_eff hH hk
    rcases q.2.1 with ⟨q1, -⟩ | ⟨-, q2⟩
    ·rcases hC.one e.1 q.1 hne with h | h
     ·rw [q1] at h; cases h
     ·exact h (by rw [q1, hdi, c])
    ·exact absurd q2 (by rw [← c, ← hz]; exact Nat.not_le.2 hdlt)
   have hfr : d < a.tmps.size → ∀ v W', (p.1 = none → AF.tmps[d]? = some v) → St (E.map fun e => (l.setIfInBounds i true).getD e.1 false) (E.map fun e => (x.put (some d) v).tmps.getD e.2 undef) W' →
     ((l.setIfInBounds i true).size = ops.size ∧ Shut ops (l.setIfInBounds i true) ∧ (x.put (some d) v).defers = a.defers ∧ (x.put (some d) v).tmps.size = a.tmps.size ∧
  (∀ j, j < N → (∀ e ∈ E, e.1 ≠ j) → (l.setIfInBounds i true).getD j false = true → ∀ t, dstOf ops j = some t → (x.put (some d) v).tmps[t]? = AF.tmps[t]?) ∧
  (∀ t, (∀ j, j < N → dstOf ops j = some t → (l.setIfInBounds i true).getD j false = false) → (x.put (some d) v).tmps[t]? = a.tmps[t]?) ∧ St (E.map fun e => (l.setIfInBounds i true).getD e.1 false) (E.map fun e => (x.put (some d) v).tmps.getD e.2 undef) W') := by
    intro hdlt v W' hv hSt
    have hlt : d < x.tmps.size := by rw [x2]; exact hdlt
    refine ⟨hs2, hS2, x1, by simpa [Act.put] using x2, ?_, ?_, hSt⟩
    ·intro j hj m1 hjl t hjt
     rw [put_at]
     by_cases e : d = t
     ·subst e
      rw [if_pos rfl, if_pos hlt]
      have hji : j = i := Classical.byContradiction fun c => by
       rcases hC.one j hj c with h | h
       ·rw [hjt] at h; cases h
       ·exact h (by rw [hjt, hdi])
      subst hji
      refine (hv ?_).symm
      cases hp : p.1 with
      | none => rfl
      | some k => obtain ⟨e, he1, he2⟩ := hC.yes k hp; exact absurd he2 (m1 e (List.mem_of_getElem? he1))
     ·rw [if_neg e]
      have hji : j ≠ i := fun c => by subst c; rw [hdi] at hjt; exact e (Option.some.inj hjt)
      rw [getD_set1 hil, if_neg (fun c => hji c.symm)] at hjl
      exact x3 j hj m1 hjl t hjt
    ·intro t ht
     rw [put_at]
     have hdt : d ≠ t := fun c => by
      subst c
      have := ht i hi hdi
      rw [getD_set1 hil, if_pos rfl] at this
      cases this
     rw [if_neg hdt]
     refine x4 t fun j hj hjt => ?_
     have := ht j hj hjt
     rw [getD_set1 hil] at this
     split at this
     ·cases this
     ·exact this
   obtain ⟨pk, nd⟩ := p
   cases pk with
   | none =>
    obtain ⟨d', v, g1, g2, g3⟩ := hO
    rw [hd1] at g1
    obtain rfl : d = d' := Option.some.inj g1
    have hdlt : d < a.tmps.size := by
     have := (Array.getElem?_eq_some_iff.1 g2).1
     rw [hsz] at this
     exact this
    have hE := hC.no rfl
    refine wpOp_mono ?_ (hput hdlt (fun v' W' => v' = v ∧ St (E.map fun e => l.getD e.1 false) (E.map fun e => x.tmps.getD e.2 undef) W') (fun K Q hK => g3 _ _ W (by simp) (by simp) hneed x5 K Q (fun W' h => hK v W' ⟨rfl, h⟩)))
    rintro a' w' ⟨v', rfl, rfl, hv⟩
    refine hfr hdlt v' w' (fun _ => g2) ?_
    have q1 : (E.map fun e => (l.setIfInBounds i true).getD e.1 false) = E.map fun e => l.getD e.1 false := List.map_congr_left fun e he => by
     rw [getD_set1 hil, if_neg (fun c => hE e he c.symm)]
    have q2 : (E.map fun e => (x.put (some d) v').tmps.getD e.2 undef) = E.map fun e => x.tmps.getD e.2 undef := List.map_congr_left fun e he => by
     rw [hgd hdlt, if_neg (hother hdlt e he (hE e he))]
    rw [q1, q2]
    exact hv
   | some k =>
    rcases hO with ⟨d', g1, g3⟩ | ⟨g1, -⟩
    rotate_left
    ·rw [hd1] at g1; cases g1
    rw [hd1] at g1
    obtain rfl : d = d' := Option.some.inj g1
    obtain ⟨ek, hk, hek⟩ := hC.yes k rfl
    have qk := eg_eff hH hk
    have hq : d = ek.2 ∧ ek.2 < z := by
     rcases qk.2.1 with ⟨q1, q2⟩ | ⟨q1, -⟩
     ·rw [hek, hdi] at q1
      exact ⟨Option.some.inj q1, q2⟩
     ·rw [hek, hdi] at q1
      cases q1
    have hde := hq.1
    have hdlt : d < a.tmps.size := by rw [hde, hz]; exact hq.2
    have hbk : (E.map fun e => l.getD e.1 false).getD k false = false := by
     rw [List.getD_eq_getElem?_getD, List.getElem?_map, hk]
     show l.getD ek.1 false = false
     rw [hek]
     exact getD_tf hl
    refine wpOp_mono ?_ (hput hdlt (fun v' W' => St ((E.map fun e => l.getD e.1 false).set k true) ((E.map fun e => x.tmps.getD e.2 undef).set k v') W') (fun K Q hK => g3 _ _ W (by simp) (by simp) hneed hbk x5 K Q hK))
    rintro a' w' ⟨v', rfl, hv⟩
    refine hfr hdlt v' w' (fun c => by cases c) ?_
    have hkl : k < E.length := (List.getElem?_eq_some_iff.1 hk).1
    have hm : ∀ m e, E[m]? = some e → e.1 = i → m = k := by
     intro m e hme h
     have q := (eg_eff hH hme).2.2
     have q' := qk.2.2
     rw [h] at q
     rw [hek, q] at q'
     exact Option.some.inj (Option.some.inj q')
    have q1 : (E.map fun e => (l.setIfInBounds i true).getD e.1 false) = (E.map fun e => l.getD e.1 false).set k true := by
     refine List.ext_getElem? fun m => ?_
     rw [List.getElem?_set, List.getElem?_map, List.getElem?_map]
     cases hE : E[m]? with
     | none =>
      have : E.length ≤ m := List.getElem?_eq_none_iff.1 hE
      rw [if_neg (by omega)]; rfl
     | some e =>
      simp only [Option.map_some]
      rw [getD_set1 hil]
      by_cases c : k = m
      ·subst c
       rw [hk] at hE
       obtain rfl := Option.some.inj hE
       rw [if_pos hek.symm, if_pos rfl, if_pos (by simpa using hkl)]
      ·rw [if_neg (fun h => c (hm m e hE h.symm).symm), if_neg c]
    have q2 : (E.map fun e => (x.put (some d) v').tmps.getD e.2 undef) = (E.map fun e => x.tmps.getD e.2 undef).set k v' := by
     refine List.ext_getElem? fun m => ?_
     rw [List.getElem?_set, List.getElem?_map, List.getElem?_map]
     cases hE : E[m]? with
     | none =>
      have : E.length ≤ m := List.getElem?_eq_none_iff.1 hE
      rw [if_neg (by omega)]; rfl
     | some e =>
      simp only [Option.map_some]
      rw [hgd hdlt]
      by_cases c : k = m
      ·subst c
       rw [hk] at hE
       obtain rfl := Option.some.inj hE
       rw [if_pos hde, if_pos rfl, if_pos (by simpa using hkl)]
      ·have hne : e.1 ≠ i := fun h => c (hm m e hE h).symm
       rw [if_neg (hother hdlt e (List.mem_of_getElem? hE) hne), if_neg c]
    rw [q1, q2]
    exact hv
 ·rintro l x W ⟨hs, hS, x1, x2, x3, x4, x5⟩ hall
  have hall' : ∀ j, j < N → l.getD j false = true := fun j hj => getD_tt (by omega) (hall j (by omega))
  have q1 : (E.map fun e => l.getD e.1 false) = E.map fun _ => true := List.map_congr_left fun e he => by
   obtain ⟨k, hk⟩ := List.getElem?_of_mem he
   exact hall' e.1 (eg_eff hH hk).1
  rw [q1] at x5
  have hFx := putE_get AF x (by rw [hsz, x2]) E
  have hx : x = putE AF E (E.map fun e => x.tmps.getD e.2 undef) := by
   refine act_ext (Array.ext_getElem? fun t => ?_) (by rw [putE_defers, hdf, x1])
   rw [hFx]
   by_cases c1 : t ∈ E.map (·.2)
   ·rw [if_pos c1]
   ·rw [if_neg c1]
    by_cases hc : ∃ j, j < N ∧ dstOf ops j = some t
    ·obtain ⟨j, hj, hjt⟩ := hc
     refine x3 j hj (fun e heE hej => c1 ?_) (hall' j hj) t hjt
     obtain ⟨k, hk⟩ := List.getElem?_of_mem heE
     rcases (eg_eff hH hk).2.1 with ⟨q, -⟩ | ⟨q, -⟩
     ·rw [hej, hjt] at q
      exact List.mem_map.2 ⟨e, heE, (Option.some.inj q).symm⟩
     ·rw [hej, hjt] at q
      cases q
    ·have hno : ∀ j, j < N → dstOf ops j ≠ some t := fun j hj e => hc ⟨j, hj, e⟩
     rw [x4 t (fun j hj e => absurd e (hno j hj)), hsame t (fun j hj _ => hno j hj)]
  have ht := done _ W (by simp) x5
  rw [← hx] at ht
  exact ht
end
end Go.Proofs.YtmpilgkfbibhlaaGreatDoor
namespace Go.Proofs.YtmpilgkfbibhlaaGreatDoor
open Go.RowKit Mr
def yR (v : Value) (m : List Nat) : Rw := ⟨5, 1, v, m.length, byC m⟩
def PtL (L : Nat → Option Obj) (v : Value) (m : List Nat) : Prop := RdL L v m.length 1 (byC m)
theorem byC_len (m : List Nat) : (byC m).length = m.length := by simp [byC]
def o1 (x : Option Rw) : Nat → Option Rw := fun s => if s = 0 then x else none
theorem o1_upd {x y : Option Rw} (s : Nat) : updF (o1 x) 0 y s = o1 y s := by
 unfold updF o1
 by_cases h : s = 0
 ·rw [if_pos h, if_pos h]
 ·rw [if_neg h, if_neg h, if_neg h]
def ro (b : Bool) (r : Rw) (e : Option Rw) : Option Rw := bif b then some r else e
theorem y_app {w W : World} {B : Nat} {L : Nat → Option Obj} {v p : Value} {R A : List Nat} {x : Option Rw} {o : Oper} {a : Act} {K : Act → World → Prop} {Q : Exit → Act → World → Prop} (h : MR w B L (o1 (some (yR v R))) W) (hp : PtL L p A)
  (s t : Operand) (ho : o.op = .call { callee := .builtin .append, args := #[s, t], argTypes := #[88, 88] }) (hs : a.eval s = v) (ht : a.eval t = p) (hl : R.length + A.length ≤ 1000000)
  (hK : ∀ v' W', MR w B L (o1 (some (yR v' (R ++ A)))) W' → K (a.put o.dst v') W') : o.wp Tryz.prog a W K Q := by
 obtain ⟨i0, hi, hz0, hz1, hz2⟩ := info_parts info8
 obtain ⟨ad, c, rfl, hc⟩ := hp.cells h
 refine wp_app (P := Tryz.prog) W s t 88 ho B 5 i0 (.int .u8 0) 1 1 Tryz.underlying88 hi hz0 hz1 hz2 rfl (by decide) v R.length (byC R) hs (h.own 0 _ rfl) ad A.length c (byC A) ht (by rw [byC_len]; omega) hc (byC_one A) (by unfold maxLen; omega) (by omega) h.sz fun v' W' q1 q2 q3 => hK v' W' ?_
 refine (h.app 0 (r' := yR v' (R ++ A)) rfl ?_ q2 q3).congr fun s => (o1_upd s).symm
 show W'.ownsRow B 5 1 v' (R ++ A).length (byC (R ++ A))
 rw [List.length_append, byC_app]
 exact q1
structure RawS (w : World) (B bx : Nat) (ob : Obj) (R A C : List Nat) (vr : Value) (b0 b1 b2 b3 : Bool) (v0 v1 v2 v3 : Value) (W : World) : Prop where
 ex : ∃ L, MR w B L (o1 (ro b3 (yR v3 (R ++ A ++ C)) (ro b1 (yR v1 (R ++ A)) (some (yR vr R))))) W ∧ L bx = some ob ∧ (b0 = true → PtL L v0 A) ∧ (b2 = true → PtL L v2 C)
 i1 : b1 = true → b0 = true
 i3 : b3 = true → b1 = true ∧ b2 = true
structure RawT (w : World) (B bx : Nat) (ob : Obj) (R A : List Nat) (b0 b1 b2 : Bool) (v0 v1 v2 : Value) (W : World) : Prop where
 ex : ∃ L, MR w B L (o1 (ro b2 (yR v2 (R ++ A)) (ro b0 (yR v0 R) none))) W ∧ L bx = some ob ∧ (b1 = true → PtL L v1 A)
 i2 : b2 = true → b0 = true ∧ b1 = true
def RawU (w : World) (B bx : Nat) (ob : Obj) (R : List Nat) (v : Value) (W : World) : Prop := ∃ L, MR w B L (o1 (some (yR v R))) W ∧ L bx = some ob
section
variable {w W w2 : World} {B bx : Nat} {ob : Obj} {R A C : List Nat} {vr : Value} {b0 b1 b2 b3 : Bool} {v0 v1 v2 v3 : Value}
theorem got_part {L : Nat → Option Obj} {f : Nat → Option Rw} {m : List Nat} {cs : Array Value} {t : TypeId} {fr : Nat × Nat} {c : Nat} (h : MR w B L f W) (hb : Below W.heap.size W w2) (hp : w2.heap[W.heap.size]? = some (.cells cs t fr)) (hc : ∀ (j : Nat) (u : Value), (byC m)[j]? = some u → cs[j]? = some u) :
  ∃ L', MR w B L' f w2 ∧ PtL L' (.slice (some ⟨W.heap.size, 0, none⟩) m.length c) m ∧ (∀ p o, L p = some o → L' p = some o) ∧ ∀ v q, PtL L v q → PtL L' v q := by
 have hn : L W.heap.size = none := by
  cases e : L W.heap.size with
  | none => rfl
  | some o => have := blk_lt (h.sb _ o e); omega
 refine ⟨_, h.got hb (Nat.le_refl _) hp, ⟨by rw [byC_len]; omega, _, c, rfl, fun _ => ⟨_, 0, cs, t, fr, rfl, updF_at, fun j u hj => by rw [Nat.zero_add]; exact hc j u hj⟩⟩, fun p o e => ?_, fun v q hq => RdL.upd hq hn⟩
 rw [updF_ne (fun c => by rw [c, hn] at e; cases e)]
 exact e
theorem RawS.start (h : RawU w B bx ob R vr W) : RawS w B bx ob R A C vr false false false false v0 v1 v2 v3 W.drew := by
 obtain ⟨L, h1, h2⟩ := h
 exact ⟨⟨L, h1.step ((Below.refl _ _).drew), h2, (fun e => by cases e), (fun e => by cases e)⟩, (fun e => by cases e), (fun e => by cases e)⟩
theorem RawS.step (h : RawS w B bx ob R A C vr b0 b1 b2 b3 v0 v1 v2 v3 W) (hb : Below W.heap.size W w2) : RawS w B bx ob R A C vr b0 b1 b2 b3 v0 v1 v2 v3 w2 := by
 obtain ⟨⟨L, h1, h2, h3, h4⟩, h5, h6⟩ := h
 exact ⟨⟨L, h1.step hb, h2, h3, h4⟩, h5, h6⟩
theorem RawS.bel (h : RawS w B bx ob R A C vr b0 b1 b2 b3 v0 v1 v2 v3 W) : Below w.heap.size w W := by
 obtain ⟨⟨L, h1, -⟩, -⟩ := h
 exact h1.bel
theorem RawS.box (h : RawS w B bx ob R A C vr b0 b1 b2 b3 v0 v1 v2 v3 W) : W.heap[bx]? = some ob := by
 obtain ⟨⟨L, h1, h2, -⟩, -⟩ := h
 exact h1.sb _ _ h2
theorem RawS.n0 (h : RawS w B bx ob R A C vr false b1 b2 b3 v0 v1 v2 v3 W) : b1 = false ∧ b3 = false := by
 have h1 := h.i1
 have h3 := h.i3
 cases b1 with
 | true => exact absurd (h1 rfl) (by decide)
 | false =>
  cases b3 with
  | true => exact absurd (h3 rfl).1 (by decide)
  | false => exact ⟨rfl, rfl⟩
theorem RawS.n1 (h : RawS w B bx ob R A C vr b0 false b2 b3 v0 v1 v2 v3 W) : b3 = false := by
 cases b3 with
 | true => exact absurd (h.i3 rfl).1 (by decide)
 | false => rfl
theorem RawS.n2 (h : RawS w B bx ob R A C vr b0 b1 false b3 v0 v1 v2 v3 W) : b3 = false := by
 cases b3 with
 | true => exact absurd (h.i3 rfl).2 (by decide)
 | false => rfl
theorem RawS.mk0 {cs : Array Value} {t : TypeId} {fr : Nat × Nat} {c n : Nat} (h : RawS w B bx ob R A C vr false b1 b2 b3 v0 v1 v2 v3 W) (hb : Below W.heap.size W w2) (hp : w2.heap[W.heap.size]? = some (.cells cs t fr)) (hn : n = A.length) (hc : ∀ (j : Nat) (u : Value), (byC A)[j]? = some u → cs[j]? = some u) :
  RawS w B bx ob R A C vr true b1 b2 b3 (.slice (some ⟨W.heap.size, 0, none⟩) n c) v1 v2 v3 w2 := by
 subst hn
 obtain ⟨⟨L, h1, h2, h3, h4⟩, h5, h6⟩ := h
 obtain ⟨L', k1, k2, k3, k4⟩ := got_part (m := A) (c := c) h1 hb hp hc
 exact ⟨⟨L', k1, k3 _ _ h2, fun _ => k2, fun e => k4 _ _ (h4 e)⟩, fun _ => rfl, h6⟩
theorem RawS.mk2 {cs : Array Value} {t : TypeId} {fr : Nat × Nat} {c n : Nat} (h : RawS w B bx ob R A C vr b0 b1 false b3 v0 v1 v2 v3 W) (hb : Below W.heap.size W w2) (hp : w2.heap[W.heap.size]? = some (.cells cs t fr)) (hn : n = C.length) (hc : ∀ (j : Nat) (u : Value), (byC C)[j]? = some u → cs[j]? = some u) :
  RawS w B bx ob R A C vr b0 b1 true b3 v0 v1 (.slice (some ⟨W.heap.size, 0, none⟩) n c) v3 w2 := by
 subst hn
 obtain ⟨⟨L, h1, h2, h3, h4⟩, h5, h6⟩ := h
 obtain ⟨L', k1, k2, k3, k4⟩ := got_part (m := C) (c := c) h1 hb hp hc
 exact ⟨⟨L', k1, k3 _ _ h2, fun e => k4 _ _ (h3 e), fun _ => k2⟩, h5, fun e => ⟨(h6 e).1, rfl⟩⟩
theorem RawS.app1 {o : Oper} {a : Act} {K : Act → World → Prop} {Q : Exit → Act → World → Prop} (h : RawS w B bx ob R A C vr true false b2 false v0 v1 v2 v3 W)
  (s t : Operand) (ho : o.op = .call { callee := .builtin .append, args := #[s, t], argTypes := #[88, 88] }) (hs : a.eval s = vr) (ht : a.eval t = v0) (hl : R.length + A.length ≤ 1000000)
  (hK : ∀ v' W', RawS w B bx ob R A C vr true true b2 false v0 v' v2 v3 W' → K (a.put o.dst v') W') : o.wp Tryz.prog a W K Q := by
 obtain ⟨⟨L, h1, h2, h3, h4⟩, h5, h6⟩ := h
 exact y_app (x := none) h1 (h3 rfl) s t ho hs ht hl fun v' W' k => hK v' W' ⟨⟨L, k, h2, h3, h4⟩, fun _ => rfl, fun e => by cases e⟩
theorem RawS.app3 {o : Oper} {a : Act} {K : Act → World → Prop} {Q : Exit → Act → World → Prop} (h : RawS w B bx ob R A C vr b0 true true false v0 v1 v2 v3 W)
  (s t : Operand) (ho : o.op = .call { callee := .builtin .append, args := #[s, t], argTypes := #[88, 88] }) (hs : a.eval s = v1) (ht : a.eval t = v2) (hl : R.length + A.length + C.length ≤ 1000000)
  (hK : ∀ v' W', RawS w B bx ob R A C vr b0 true true true v0 v1 v2 v' W' → K (a.put o.dst v') W') : o.wp Tryz.prog a W K Q := by
 obtain ⟨⟨L, h1, h2, h3, h4⟩, h5, h6⟩ := h
 exact y_app (x := none) h1 (h4 rfl) s t ho hs ht (by rw [List.length_append]; omega) fun v' W' k => hK v' W' ⟨⟨L, k, h2, h3, h4⟩, h5, fun e => ⟨rfl, rfl⟩⟩
theorem RawS.fin (h : RawS w B bx ob R A C vr b0 b1 b2 true v0 v1 v2 v3 W) : RawU w B bx ob (R ++ A ++ C) v3 W := by
 obtain ⟨⟨L, h1, h2, h3, h4⟩, h5, h6⟩ := h
 exact ⟨L, h1, h2⟩
theorem RawT.start {L : Nat → Option Obj} (h : MR w B L (fun _ => none) W) (h2 : L bx = some ob) : RawT w B bx ob R A false false false v0 v1 v2 W.drew :=
 ⟨⟨L, (h.step ((Below.refl _ _).drew)).congr fun s => by unfold o1 ro; split <;> rfl, h2, (fun e => by cases e)⟩, (fun e => by cases e)⟩
theorem RawT.step (h : RawT w B bx ob R A b0 b1 b2 v0 v1 v2 W) (hb : Below W.heap.size W w2) : RawT w B bx ob R A b0 b1 b2 v0 v1 v2 w2 := by
 obtain ⟨⟨L, h1, h2, h3⟩, h4⟩ := h
 exact ⟨⟨L, h1.step hb, h2, h3⟩, h4⟩
theorem RawT.bel (h : RawT w B bx ob R A b0 b1 b2 v0 v1 v2 W) : Below w.heap.size w W := by
 obtain ⟨⟨L, h1, -⟩, -⟩ := h
 exact h1.bel
theorem RawT.box (h : RawT w B bx ob R A b0 b1 b2 v0 v1 v2 W) : W.heap[bx]? = some ob := by
 obtain ⟨⟨L, h1, h2, -⟩, -⟩ := h
 exact h1.sb _ _ h2
theorem RawT.n0 (h : RawT w B bx ob R A false b1 b2 v0 v1 v2 W) : b2 = false := by
 cases b2 with
 | true => exact absurd (h.i2 rfl).1 (by decide)
 | false => rfl
theorem RawT.n1 (h : RawT w B bx ob R A b0 false b2 v0 v1 v2 W) : b2 = false := by
 cases b2 with
 | true => exact absurd (h.i2 rfl).2 (by decide)
 | false => rfl
theorem RawT.mk0 {x : Nat} (h : RawT w B bx ob [x] A false b1 b2 v0 v1 v2 W) : RawT w B bx ob [x] A true b1 b2 (.slice (some ⟨W.heap.size, 0, none⟩) 1 1) v1 v2 (W.alloc (.cells #[.int .u8 (x : Int)] 5)) := by
 obtain rfl := h.n0
 obtain ⟨⟨L, h1, h2, h3⟩, h4⟩ := h
 exact ⟨⟨L, (h1.fresh 0 #[.int .u8 (x : Int)] 5 1 1 (by decide) rfl).congr fun s => (o1_upd s).symm, h2, h3⟩, fun e => by cases e⟩
theorem RawT.mk1 {cs : Array Value} {t : TypeId} {fr : Nat × Nat} {c n : Nat} (h : RawT w B bx ob R A b0 false b2 v0 v1 v2 W) (hb : Below W.heap.size W w2) (hp : w2.heap[W.heap.size]? = some (.cells cs t fr)) (hn : n = A.length) (hc : ∀ (j : Nat) (u : Value), (byC A)[j]? = some u → cs[j]? = some u) :
  RawT w B bx ob R A b0 true b2 v0 (.slice (some ⟨W.heap.size, 0, none⟩) n c) v2 w2 := by
 subst hn
 obtain ⟨⟨L, h1, h2, h3⟩, h4⟩ := h
 obtain ⟨L', k1, k2, k3, k4⟩ := got_part (m := A) (c := c) h1 hb hp hc
 exact ⟨⟨L', k1, k3 _ _ h2, fun _ => k2⟩, fun e => ⟨(h4 e).1, rfl⟩⟩
theorem RawT.app2 {o : Oper} {a : Act} {K : Act → World → Prop} {Q : Exit → Act → World → Prop} (h : RawT w B bx ob R A true true false v0 v1 v2 W)
  (s t : Operand) (ho : o.op = .call { callee := .builtin .append, args := #[s, t], argTypes := #[88, 88] }) (hs : a.eval s = v0) (ht : a.eval t = v1) (hl : R.length + A.length ≤ 1000000)
  (hK : ∀ v' W', RawT w B bx ob R A true true true v0 v1 v' W' → K (a.put o.dst v') W') : o.wp Tryz.prog a W K Q := by
 obtain ⟨⟨L, h1, h2, h3⟩, h4⟩ := h
 exact y_app (x := none) h1 (h3 rfl) s t ho hs ht hl fun v' W' k => hK v' W' ⟨⟨L, k, h2, h3⟩, fun _ => ⟨rfl, rfl⟩⟩
theorem RawT.fin (h : RawT w B bx ob R A b0 b1 true v0 v1 v2 W) : RawU w B bx ob (R ++ A) v2 W := by
 obtain ⟨⟨L, h1, h2, h3⟩, h4⟩ := h
 exact ⟨L, h1, h2⟩
theorem RawU.step (h : RawU w B bx ob R vr W) (hb : Below W.heap.size W w2) : RawU w B bx ob R vr w2 := by
 obtain ⟨L, h1, h2⟩ := h
 exact ⟨L, h1.step hb, h2⟩
end
theorem ev_cells {W : World} {bx : Nat} {k t a b : Int} {nm ot : ByteArray} (h : W.heap[bx]? = some (.cells #[.int .i64 k, .int .i64 t, .int .i64 a, .int .i64 b, .string nm, .string ot] 29)) :
  W.cell? ⟨bx, 0, none⟩ = some (.int .i64 k) ∧ W.cell? ⟨bx, 1, none⟩ = some (.int .i64 t) ∧ W.cell? ⟨bx, 2, none⟩ = some (.int .i64 a) ∧ W.cell? ⟨bx, 3, none⟩ = some (.int .i64 b) ∧ W.cell? ⟨bx, 4, none⟩ = some (.string nm) ∧ W.cell? ⟨bx, 5, none⟩ = some (.string ot) ∧ bx < W.heap.size :=
 ⟨blk_cell h rfl, blk_cell h rfl, blk_cell h rfl, blk_cell h rfl, blk_cell h rfl, blk_cell h rfl, blk_lt h⟩
theorem str_cells (s : ByteArray) (cap : Nat) : ∀ (j : Nat) (u : Value), (byC (s.data.toList.map UInt8.toNat))[j]? = some u → (bytesRow s cap)[j]? = some u := by
 intro j u hj
 have hl := (List.getElem?_eq_some_iff.1 hj).1
 have hl2 : j < s.data.size := by simpa [byC] using hl
 rw [bytesRow_at s cap j hl2]
 rw [← hj]
 simp only [byC, List.map_map, List.getElem?_map, Array.getElem?_toList]
 rw [Array.getElem?_eq_getElem hl2]
 rfl
end Go.Proofs.YtmpilgkfbibhlaaGreatDoor
