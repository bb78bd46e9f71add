/-
  A row that is copied by an append to an empty slice; two such rows and a box, in any order.
-/
import Derived.Test.YtkldlmbccdfjdaaEf
import Derived.Test.YtkldlmbccdfjdaaCq
import Derived.Test.YtkldlmbccdfjdaaCl
set_option linter.unusedSimpArgs false
set_option linter.unusedVariables false
namespace Go.Proofs.Ytkldlmbccdfjdaa
open Go.RowKit
section
variable {P : Program}
theorem firstCells_noneZ {x : Value} (h : ∃ a n c, x = .slice a n c) (size : Nat) (w : World) : (Builtin.firstCells size 0 x).run P w = .ok #[] w := by
  obtain ⟨a, n, c, rfl⟩ := h
  cases a with
  | none => rfl
  | some a =>
    simp only [Builtin.firstCells, Nat.zero_mul]
    have := run_firstCells_some (P := P) w size 0 a n c [] (by simp) (fun j x hx => by simp at hx)
    simpa [Builtin.firstCells] using this
theorem run_append_zeroZ (w : World) (t ty e : TypeId) (i : TypeInfo) (ht : P.underlying t = some (.slice e)) (hi : P.info? e = some i) (base : Option Addr) (n cap : Nat) (h : n ≤ cap) (a : Option Addr) (c : Nat) :
    (Builtin.append_ #[t, t] ty #[.slice base n cap, .slice a 0 c]).run P w = .ok (.slice base n cap) w := by
  have hfc := firstCells_noneZ (P := P) ⟨a, 0, c, rfl⟩ i.size w
  cases base with
  | none => simp [Builtin.append_, run_underlying ht, sizeOf, typeInfo, hi, Builtin.lenOf, h, hfc]
  | some b => simp [Builtin.append_, run_underlying ht, sizeOf, typeInfo, hi, Builtin.lenOf, h, hfc, storeCells]
end
theorem bAlZ {W : World} {o : Obj} : Below W.heap.size W (W.alloc o) := (Below.refl _ _).alloc (Nat.le_refl _) _
theorem run_app_copy (w : World) (v : Value) (B : Nat) (rs : List Int) (hown : IntOwn w B v rs) (src : Option Addr) (xs : List Int) (c : Nat) (hsrc : IntAt src xs w) (hl : rs.length + xs.length ≤ 10000000) (hB : B ≤ w.heap.size) (ty : TypeId) :
    ∃ v' w', (Builtin.append_ #[22, 22] ty #[v, .slice src xs.length c]).run Try.prog w = .ok v' w' ∧ IntOwn w' B v' (rs ++ xs) ∧ w.grownBy w' v.ownBlock ∧ (v'.ownBlock = v.ownBlock ∨ v'.ownBlock = some w.heap.size) := by
  obtain ⟨j0, hj, hy0, hy1, hy2⟩ := info_parts infoI
  by_cases hn : xs = []
  · subst hn
    refine ⟨v, w, ?_, by simpa using hown, ⟨rfl, rfl, rfl, Nat.le_refl _, fun _ _ _ => rfl⟩, Or.inl rfl⟩
    rcases hown.2 with ⟨rfl, -⟩ | ⟨g, cap, cur, rfl, -, -, h4, -⟩
    · exact run_append_zeroZ w _ _ _ _ Try.underlying22 hj _ _ _ (Nat.le_refl _) _ _
    · exact run_append_zeroZ w _ _ _ _ Try.underlying22 hj _ _ _ h4 _ _
  · obtain ⟨b, o, rfl, hlt, hc⟩ := hsrc hn
    obtain ⟨v', w', h1, h2, h3, -, h5⟩ := run_append_own_at (P := Try.prog) w B 22 ty 2 j0 (.int .i64 0) 1 8 Try.underlying22 hj hy0 hy1 hy2 rfl (by decide) v rs.length (flatI rs) hown ⟨b, o, none⟩ xs.length c (flatI xs) (by simp [flatI])
      (fun j u hj => by
        have hjl : j < xs.length := by
          have := (List.getElem?_eq_some_iff.1 hj).1
          simpa [flatI] using this
        have hf : (flatI xs)[j]? = some (.int .i64 (xs.getD j 0)) := by simp [flatI, List.getD_eq_getElem?_getD, List.getElem?_eq_getElem hjl]
        rw [hf] at hj
        obtain rfl := Option.some.inj hj
        have := hc j hjl
        unfold Addr.add
        by_cases e : j = 0
        · subst e; simpa using this
        · rw [if_neg e]; exact this)
      flatI_one (by unfold maxLen; omega) (by omega) hB
    refine ⟨v', w', h1, ?_, h3, h5⟩
    have : IntOwn w' B v' (rs ++ xs) := by
      unfold IntOwn
      rw [List.length_append, show flatI (rs ++ xs) = flatI rs ++ flatI xs from by simp [flatI]]
      exact h2
    exact this
theorem wp_app_copy (w : World) {o : Oper} {a : Act} {K : Act → World → Prop} {Q : Exit → Act → World → Prop} (s x : Operand) (ho : o.op = .call { callee := .builtin .append, args := #[s, x], argTypes := #[22, 22] })
    (v : Value) (hs : a.eval s = v) (B : Nat) (rs : List Int) (hown : IntOwn w B v rs) (src : Option Addr) (xs : List Int) (c : Nat) (hx : a.eval x = .slice src xs.length c) (hsrc : IntAt src xs w) (hl : rs.length + xs.length ≤ 10000000) (hB : B ≤ w.heap.size)
    (h : ∀ v' w', IntOwn w' B v' (rs ++ xs) → w.grownBy w' v.ownBlock → (v'.ownBlock = v.ownBlock ∨ v'.ownBlock = some w.heap.size) → K (a.put o.dst v') w') : o.wp Try.prog a w K Q := by
  obtain ⟨v', w', hr, h2, h3, h5⟩ := run_app_copy w v B rs hown src xs c hsrc hl hB o.type
  unfold Oper.wp execOp
  simp only [ho, resolve, invoke, builtin, Sem.run_bind, Sem.run_pure, Result.andThen_ok, List.map_toArray, List.map_cons, List.map_nil, hs, hx, hr]
  exact h v' w' h2 h3 h5

theorem wpList_app_copy {ops : Array Oper} {rest : List Oper} (w : World) {o : Oper} {a : Act} {Q : Exit → Act → World → Prop} (hgd : o.guard = none) (s x : Operand) (ho : o.op = .call { callee := .builtin .append, args := #[s, x], argTypes := #[22, 22] })
    (v : Value) (hs : a.eval s = v) (B : Nat) (rs : List Int) (hown : IntOwn w B v rs) (src : Option Addr) (xs : List Int) (c : Nat) (hx : a.eval x = .slice src xs.length c) (hsrc : IntAt src xs w) (hl : rs.length + xs.length ≤ 10000000) (hB : B ≤ w.heap.size)
    (h : ∀ v' w', IntOwn w' B v' (rs ++ xs) → w.grownBy w' v.ownBlock → (v'.ownBlock = v.ownBlock ∨ v'.ownBlock = some w.heap.size) → wpList Try.prog ops Q rest (a.put o.dst v') w') : wpList Try.prog ops Q (o :: rest) a w :=
  wpList_plain hgd fun _ hK => wp_app_copy w s x ho v hs B rs hown src xs c hx hsrc hl hB fun v' w' h2 h3 h5 => hK _ _ (h v' w' h2 h3 h5)

/-- Two rows that are being copied, and a box: objects that stay. -/
structure TwoQ (w : World) (L : List (Nat × Obj)) (B : Nat) (xs ys : List Int) (b0 b1 b2 b3 b4 : Bool) (v0 v1 v2 v3 v4 : Value) (W : World) : Prop where
  hB : w.heap.size ≤ B
  hL : ∀ p ∈ L, p.1 < B
  bel : Below w.heap.size w W
  sz : B ≤ W.heap.size
  sb : ∀ p ∈ L, W.heap[p.1]? = some p.2
  i1 : b1 = true → b0 = true
  i3 : b3 = true → b2 = true
  ox : b0 = true → IntOwn W B (cond b1 v1 v0) (cond b1 xs [])
  oy : b2 = true → IntOwn W B (cond b3 v3 v2) (cond b3 ys [])
  far : b0 = true → b2 = true → Far (cond b1 v1 v0) (cond b3 v3 v2)
  bx : b4 = true → ∃ r, v4 = .pointer (some ⟨r, 0, none⟩) ∧ B ≤ r ∧ W.heap[r]? = some (.cells zCurve 24)
section
variable {w W w2 : World} {L : List (Nat × Obj)} {B : Nat} {xs ys : List Int} {b0 b1 b2 b3 b4 : Bool} {v0 v1 v2 v3 v4 : Value}
theorem TwoQ.swap (h : TwoQ w L B xs ys b0 b1 b2 b3 b4 v0 v1 v2 v3 v4 W) : TwoQ w L B ys xs b2 b3 b0 b1 b4 v2 v3 v0 v1 v4 W :=
  ⟨h.hB, h.hL, h.bel, h.sz, h.sb, h.i3, h.i1, h.oy, h.ox, fun e e' => (h.far e' e).symm, h.bx⟩
theorem TwoQ.start (hB : w.heap.size ≤ B) (hL : ∀ p ∈ L, p.1 < B) (bel : Below w.heap.size w W) (sz : B ≤ W.heap.size) (sb : ∀ p ∈ L, W.heap[p.1]? = some p.2) : TwoQ w L B xs ys false false false false false v0 v1 v2 v3 v4 W :=
  ⟨hB, hL, bel, sz, sb, (fun e => by cases e), (fun e => by cases e), (fun e => by cases e), (fun e => by cases e), (fun e => by cases e), (fun e => by cases e)⟩
theorem TwoQ.step (h : TwoQ w L B xs ys b0 b1 b2 b3 b4 v0 v1 v2 v3 v4 W) (hb : Below W.heap.size W w2) : TwoQ w L B xs ys b0 b1 b2 b3 b4 v0 v1 v2 v3 v4 w2 :=
  ⟨h.hB, h.hL, bStep h.bel hb, Nat.le_trans h.sz hb.size, fun p hp => blk_step (h.sb p hp) hb, h.i1, h.i3, fun e => (h.ox e).step hb, fun e => (h.oy e).step hb, h.far, fun e => by
    obtain ⟨r, e1, e2, e3⟩ := h.bx e
    exact ⟨r, e1, e2, blk_step e3 hb⟩⟩
theorem own_new {W : World} {B : Nat} (hB : B ≤ W.heap.size) : IntOwn (W.alloc (.cells #[] 2)) B (.slice (some ⟨W.heap.size, 0, none⟩) 0 0) [] :=
  ⟨rfl, Or.inr ⟨_, _, _, rfl, hB, blk_new W _, Nat.le_refl _, by decide, rfl, rfl⟩⟩
theorem TwoQ.mk0 (h : TwoQ w L B xs ys false false b2 b3 b4 v0 v1 v2 v3 v4 W) : TwoQ w L B xs ys true false b2 b3 b4 (.slice (some ⟨W.heap.size, 0, none⟩) 0 0) v1 v2 v3 v4 (W.alloc (.cells #[] 2)) := by
  have k := h.step (bAlZ (o := .cells #[] 2))
  exact ⟨k.hB, k.hL, k.bel, k.sz, k.sb, fun _ => rfl, k.i3, fun _ => own_new h.sz, k.oy, fun _ e q e1 e2 => by
    have := ((h.oy e).lt q e2).2
    simp [cond, Value.ownBlock] at e1
    omega, k.bx⟩
theorem own_type {B g : Nat} {v : Value} {xs : List Int} (h : IntOwn W B v xs) (hg : v.ownBlock = some g) : ∃ cur, W.heap[g]? = some (.cells cur 2 (0, 0)) := by
  rcases h.2 with ⟨rfl, -⟩ | ⟨g', cap, cur, rfl, -, h3, -⟩
  · cases hg
  · obtain rfl := Option.some.inj hg
    exact ⟨cur, h3⟩
theorem own_no {B r : Nat} {v : Value} {xs : List Int} {cs : Array Value} (h : IntOwn W B v xs) (hr : W.heap[r]? = some (.cells cs 24)) : some r ≠ v.ownBlock := fun e => by
  obtain ⟨cur, hc⟩ := own_type h e.symm
  rw [hr] at hc
  have := Option.some.inj hc
  injection this with _ h2 _
  revert h2
  decide
theorem TwoQ.mk1 {v' : Value} {w' : World} (h : TwoQ w L B xs ys true false b2 b3 b4 v0 v1 v2 v3 v4 W) (ho : IntOwn w' B v' ([] ++ xs)) (hg : W.grownBy w' v0.ownBlock) (hat : v'.ownBlock = v0.ownBlock ∨ v'.ownBlock = some W.heap.size) : TwoQ w L B xs ys true true b2 b3 b4 v0 v' v2 v3 v4 w' := by
  have hB := h.hB
  have h0 : IntOwn W B v0 [] := h.ox rfl
  have hr := own_ge h0
  have hlt : ∀ b, b < B → some b ≠ v0.ownBlock := fun b hb e => by have := hr _ e.symm; omega
  refine ⟨h.hB, h.hL, h.bel.grown hg (by have := h.bel.size; omega) fun k hk => by have := hr k hk; omega, Nat.le_trans h.sz hg.size, fun p hp => blk_grown (h.sb p hp) hg (hlt _ (h.hL p hp)), fun _ => rfl, h.i3, fun _ => by simpa using ho, fun e => World.ownsRow.kept (h.oy e) hg (h.far rfl e).symm.ne, fun _ e k e1 e2 => ?_, fun e => ?_⟩
  · rcases hat with q | q
    · exact h.far rfl e k (q.symm.trans e1) e2
    · have := ((h.oy e).lt k e2).2
      have e1' : v'.ownBlock = some k := e1
      rw [q] at e1'
      simp at e1'
      omega
  · obtain ⟨r, q1, q2, q3⟩ := h.bx e
    exact ⟨r, q1, q2, blk_grown q3 hg (own_no h0 q3)⟩
theorem TwoQ.mk4 (h : TwoQ w L B xs ys b0 b1 b2 b3 false v0 v1 v2 v3 v4 W) : TwoQ w L B xs ys b0 b1 b2 b3 true v0 v1 v2 v3 (.pointer (some ⟨W.heap.size, 0, none⟩)) (W.alloc (.cells zCurve 24)) := by
  have k := h.step (bAlZ (o := .cells zCurve 24))
  exact ⟨k.hB, k.hL, k.bel, k.sz, k.sb, k.i1, k.i3, k.ox, k.oy, k.far, fun _ => ⟨_, rfl, h.sz, blk_new W _⟩⟩
structure TwoA (w : World) (L : List (Nat × Obj)) (B : Nat) (xs ys : List Int) (b0 b1 b2 b3 b4 b5 : Bool) (v0 v1 v2 v3 v4 v5 : Value) (W : World) : Prop where
  two : TwoQ w L B xs ys b0 b1 b2 b3 b5 v0 v1 v2 v3 v5 W
  ag : b4 = true → v4 = .agg #[v1, v3] ∧ b1 = true ∧ b3 = true
/-- What stands behind: a box with two rows. -/
structure PRow (w : World) (L : List (Nat × Obj)) (r : Nat) (a b : Option Addr) (ca cb : Nat) (xs ys : List Int) (W : World) : Prop where
  bel : Below w.heap.size w W
  sb : ∀ p ∈ L, W.heap[p.1]? = some p.2
  bx : W.heap[r]? = some (.cells #[.slice a xs.length ca, .slice b ys.length cb] 24)
  rx : IntAt a xs W
  ry : IntAt b ys W
theorem PRow.step {r : Nat} {a b : Option Addr} {ca cb : Nat} (h : PRow w L r a b ca cb xs ys W) (hb : Below W.heap.size W w2) : PRow w L r a b ca cb xs ys w2 :=
  ⟨bStep h.bel hb, fun p hp => blk_step (h.sb p hp) hb, blk_step h.bx hb, h.rx.step hb, h.ry.step hb⟩
theorem TwoQ.fin (h : TwoQ w L B xs ys true true true true true v0 v1 v2 v3 v4 W) : ∃ r a b ca cb, v4 = .pointer (some ⟨r, 0, none⟩) ∧ v1 = .slice a xs.length ca ∧ v3 = .slice b ys.length cb ∧ W.heap[r]? = some (.cells zCurve 24) ∧
    PRow w L r a b ca cb xs ys ((W.setCell ⟨r, 0, none⟩ v1).setCell ⟨r, 1, none⟩ v3) := by
  obtain ⟨r, q1, q2, q3⟩ := h.bx rfl
  have hx : IntOwn W B v1 xs := h.ox rfl
  have hy : IntOwn W B v3 ys := h.oy rfl
  have nx := own_no hx q3
  have ny := own_no hy q3
  have hx2 : IntOwn ((W.setCell ⟨r, 0, none⟩ v1).setCell ⟨r, 1, none⟩ v3) B v1 xs := ownsRow_setCell_other (ownsRow_setCell_other hx (Ne.symm nx) _) (Ne.symm nx) _
  have hy2 : IntOwn ((W.setCell ⟨r, 0, none⟩ v1).setCell ⟨r, 1, none⟩ v3) B v3 ys := ownsRow_setCell_other (ownsRow_setCell_other hy (Ne.symm ny) _) (Ne.symm ny) _
  obtain ⟨a, ca, rfl, hra⟩ := hx2.row
  obtain ⟨b, cb, rfl, hrb⟩ := hy2.row
  have hB := h.hB
  exact ⟨r, a, b, ca, cb, q1, rfl, rfl, q3, ⟨(h.bel.setCell (by show w.heap.size ≤ r; omega) _).setCell (by show w.heap.size ≤ r; omega) _, fun p hp => blk_set_other (blk_set_other (h.sb p hp) (by show p.1 ≠ r; have := h.hL p hp; omega)) (by show p.1 ≠ r; have := h.hL p hp; omega), (blk_set (blk_set q3)).trans rfl, hra, hrb⟩⟩
end
end Go.Proofs.Ytkldlmbccdfjdaa
