/-
  Rows of whole numbers, any number of them; objects that stay.
-/
import Derived.Test.YtpdhkgfdmpofiaaGreatDoorQb
import Derived.Maps.AppendAt
import Derived.OneCell
import Derived.OwnWalk
set_option linter.unusedSimpArgs false
set_option linter.unusedVariables false
namespace Go.Proofs.YtpdhkgfdmpofiaaGreatDoor
open Go.RowKit
/-! Slices of whole numbers. -/
def IntAt (a : Option Addr) (xs : List Int) (W : World) : Prop := xs ≠ [] → ∃ b off, a = some ⟨b, off, none⟩ ∧ b < W.heap.size ∧ ∀ k, k < xs.length → W.cell? ⟨b, off + k, none⟩ = some (.int .i64 (xs.getD k 0))
def IntRow (v : Value) (xs : List Int) (W : World) : Prop := ∃ (a : Option Addr) (c : Nat), v = .slice a xs.length c ∧ IntAt a xs W
theorem IntAt.step {a : Option Addr} {xs : List Int} {W w2 : World} (h : IntAt a xs W) (hb : Below W.heap.size W w2) : IntAt a xs w2 := fun hn => by
  obtain ⟨b, off, rfl, h1, h2⟩ := h hn
  exact ⟨b, off, rfl, Nat.lt_of_lt_of_le h1 hb.size, fun k hk => cell_step (h2 k hk) hb⟩
theorem IntRow.step {v : Value} {xs : List Int} {W w2 : World} (h : IntRow v xs W) (hb : Below W.heap.size W w2) : IntRow v xs w2 := by
  obtain ⟨a, c, rfl, h⟩ := h
  exact ⟨a, c, rfl, h.step hb⟩
theorem IntAt.at_ {a : Option Addr} {xs : List Int} {W : World} (h : IntAt a xs W) {k : Nat} (hk : k < xs.length) : ∃ b off, a = some ⟨b, off, none⟩ ∧ W.cell? ⟨b, off + k, none⟩ = some (.int .i64 xs[k]) := by
  obtain ⟨b, off, rfl, _, h2⟩ := h (fun e => by rw [e] at hk; simp at hk)
  have := h2 k hk
  rw [List.getD_eq_getElem?_getD, List.getElem?_eq_getElem hk] at this
  exact ⟨b, off, rfl, this⟩
theorem own_ge {W : World} {B e s : Nat} {v : Value} {n : Nat} {xs : List Value} (h : W.ownsRow B e s v n xs) : ∀ k, v.ownBlock = some k → B ≤ k := by
  intro k hk
  rcases h.2 with ⟨rfl, _⟩ | ⟨g, cap, cur, rfl, q2, _⟩
  · cases hk
  · cases hk; exact q2
def flatI (xs : List Int) : List Value := xs.map (Value.int .i64)
/-- The slice v owns the numbers xs, in a block from B on. -/
def IntOwn (W : World) (B : Nat) (v : Value) (xs : List Int) : Prop := W.ownsRow B 2 1 v xs.length (flatI xs)
theorem IntOwn.nil {W : World} {B : Nat} : IntOwn W B (.slice none 0 0) [] := ⟨rfl, Or.inl ⟨rfl, rfl⟩⟩
theorem own_step {W w2 : World} {B e s : Nat} {v : Value} {n : Nat} {xs : List Value} (h : W.ownsRow B e s v n xs) (hb : Below W.heap.size W w2) : w2.ownsRow B e s v n xs := by
  obtain ⟨h1, h2⟩ := h
  refine ⟨h1, ?_⟩
  rcases h2 with h2 | ⟨g, cap, cur, q1, q2, q3, q4⟩
  · exact Or.inl h2
  · exact Or.inr ⟨g, cap, cur, q1, q2, blk_step q3 hb, q4⟩
theorem IntOwn.step {W w2 : World} {B : Nat} {v : Value} {xs : List Int} (h : IntOwn W B v xs) (hb : Below W.heap.size W w2) : IntOwn w2 B v xs := own_step h hb
theorem IntOwn.row {W : World} {B : Nat} {v : Value} {xs : List Int} (h : IntOwn W B v xs) : IntRow v xs W := by
  obtain ⟨h1, h2⟩ := h
  rcases h2 with ⟨rfl, h2⟩ | ⟨g, cap, cur, rfl, q2, q3, q4, q5, q6, q7⟩
  · exact ⟨none, 0, by rw [h2], fun hn => absurd (List.length_eq_zero_iff.1 h2) hn⟩
  · refine ⟨_, _, rfl, fun _ => ⟨g, 0, rfl, blk_lt q3, fun j hj => ?_⟩⟩
    have hf : (flatI xs)[j]? = some (.int .i64 (xs.getD j 0)) := by simp [flatI, List.getD_eq_getElem?_getD, List.getElem?_eq_getElem hj]
    rw [← q7, List.getElem?_take_of_lt (by omega)] at hf
    exact blk_cell q3 (by simpa using hf)
theorem IntOwn.more {W : World} {B : Nat} {v : Value} {xs : List Int} {x : Int} (h : W.ownsRow B 2 1 v (xs.length + 1) (flatI xs ++ [.int .i64 x])) : IntOwn W B v (xs ++ [x]) := by
  unfold IntOwn flatI
  rw [List.map_append, List.length_append]
  exact h
theorem infoI : (Tryz.prog.info? 2).map (fun i => (i.zero, i.size, i.bytes)) = some (some (.int .i64 0), 1, 8) := by kernel_rfl
theorem one_cells (W : World) (x : Int) (T : TypeId) : ∀ j u, [Value.int .i64 x][j]? = some u → (W.alloc (.cells #[.int .i64 x] T)).cell? ((⟨W.heap.size, 0, none⟩ : Addr).add j) = some u := by
  intro j u hj
  match j, hj with
  | 0, hj => simp at hj; subst hj; simp [Addr.add]
theorem one_one (x : Int) : ∀ u ∈ [Value.int .i64 x], u.oneCell' = true := by
  intro u hu
  simp at hu
  rw [hu]; rfl

/-- The block g holds the row xs, and may be written. -/
def IntBlk (W : World) (g : Nat) (xs : List Int) : Prop := ∃ cur T, W.heap[g]? = some (.cells cur T (0, 0)) ∧ ∀ k, k < xs.length → cur[k]? = some (.int .i64 (xs.getD k 0))
theorem IntBlk.cells {W : World} {g : Nat} {xs : List Int} (h : IntBlk W g xs) {k : Nat} (hk : k < xs.length) : W.cell? ⟨g, k, none⟩ = some (.int .i64 (xs.getD k 0)) ∧ W.frozen? ⟨g, k, none⟩ = false := by
  obtain ⟨cur, T, h1, h2⟩ := h
  exact ⟨blk_cell h1 (h2 k hk), blk_free h1⟩
theorem IntOwn.blk {W : World} {B : Nat} {v : Value} {xs : List Int} (h : IntOwn W B v xs) (hn : xs ≠ []) : ∃ g c, v = .slice (some ⟨g, 0, none⟩) xs.length c ∧ B ≤ g ∧ IntBlk W g xs := by
  obtain ⟨h1, h2⟩ := h
  rcases h2 with ⟨rfl, h2⟩ | ⟨g, cap, cur, rfl, q2, q3, q4, q5, q6, q7⟩
  · exact absurd (List.length_eq_zero_iff.1 h2) hn
  · refine ⟨_, _, rfl, q2, cur, _, q3, fun j hj => ?_⟩
    have hf : (flatI xs)[j]? = some (.int .i64 (xs.getD j 0)) := by simp [flatI, List.getD_eq_getElem?_getD, List.getElem?_eq_getElem hj]
    rw [← q7, List.getElem?_take_of_lt (by omega)] at hf
    simpa using hf
theorem flatI_one {xs : List Int} : ∀ u ∈ flatI xs, u.oneCell' = true := by
  intro u hu
  unfold flatI at hu
  obtain ⟨x, _, rfl⟩ := List.mem_map.1 hu
  rfl
theorem flatI_len (xs : List Int) : (flatI xs).length = xs.length := by simp [flatI]
section
variable {P : Program}
theorem firstCells_noneZ {x : Value} (h : ∃ a n c, x = .slice a n c) (size : Nat) (w : World) : (Builtin.firstCells size 0 x).run P w = .ok #[] w := by
  obtain ⟨a, n, c, rfl⟩ := h
  cases a with
  | none => rfl
  | some a =>
    simp only [Builtin.firstCells, Nat.zero_mul]
    have := run_firstCells_some (P := P) w size 0 a n c [] (by simp) (fun j x hx => by simp at hx)
    simpa [Builtin.firstCells] using this
theorem run_append_zeroZ (w : World) (t ty e : TypeId) (i : TypeInfo) (ht : P.underlying t = some (.slice e)) (hi : P.info? e = some i) (base : Option Addr) (n cap : Nat) (h : n ≤ cap) (a : Option Addr) (c : Nat) :
    (Builtin.append_ #[t, t] ty #[.slice base n cap, .slice a 0 c]).run P w = .ok (.slice base n cap) w := by
  have hfc := firstCells_noneZ (P := P) ⟨a, 0, c, rfl⟩ i.size w
  cases base with
  | none => simp [Builtin.append_, run_underlying ht, sizeOf, typeInfo, hi, Builtin.lenOf, h, hfc]
  | some b => simp [Builtin.append_, run_underlying ht, sizeOf, typeInfo, hi, Builtin.lenOf, h, hfc, storeCells]
end
theorem bAlZ {W : World} {o : Obj} : Below W.heap.size W (W.alloc o) := (Below.refl _ _).alloc (Nat.le_refl _) _
theorem run_app_copy (w : World) (v : Value) (B : Nat) (rs : List Int) (hown : IntOwn w B v rs) (src : Option Addr) (xs : List Int) (c : Nat) (hsrc : IntAt src xs w) (hl : rs.length + xs.length ≤ 10000000) (hB : B ≤ w.heap.size) (ty : TypeId) :
    ∃ v' w', (Builtin.append_ #[52, 52] ty #[v, .slice src xs.length c]).run Tryz.prog w = .ok v' w' ∧ IntOwn w' B v' (rs ++ xs) ∧ w.grownBy w' v.ownBlock ∧ (v'.ownBlock = v.ownBlock ∨ v'.ownBlock = some w.heap.size) := by
  obtain ⟨j0, hj, hy0, hy1, hy2⟩ := info_parts infoI
  by_cases hn : xs = []
  · subst hn
    refine ⟨v, w, ?_, by simpa using hown, ⟨rfl, rfl, rfl, Nat.le_refl _, fun _ _ _ => rfl⟩, Or.inl rfl⟩
    rcases hown.2 with ⟨rfl, -⟩ | ⟨g, cap, cur, rfl, -, -, h4, -⟩
    · exact run_append_zeroZ w _ _ _ _ Tryz.underlying52 hj _ _ _ (Nat.le_refl _) _ _
    · exact run_append_zeroZ w _ _ _ _ Tryz.underlying52 hj _ _ _ h4 _ _
  · obtain ⟨b, o, rfl, hlt, hc⟩ := hsrc hn
    obtain ⟨v', w', h1, h2, h3, -, h5⟩ := run_append_own_at (P := Tryz.prog) w B 52 ty 2 j0 (.int .i64 0) 1 8 Tryz.underlying52 hj hy0 hy1 hy2 rfl (by decide) v rs.length (flatI rs) hown ⟨b, o, none⟩ xs.length c (flatI xs) (by simp [flatI])
      (fun j u hj => by
        have hjl : j < xs.length := by
          have := (List.getElem?_eq_some_iff.1 hj).1
          simpa [flatI] using this
        have hf : (flatI xs)[j]? = some (.int .i64 (xs.getD j 0)) := by simp [flatI, List.getD_eq_getElem?_getD, List.getElem?_eq_getElem hjl]
        rw [hf] at hj
        obtain rfl := Option.some.inj hj
        have := hc j hjl
        unfold Addr.add
        by_cases e : j = 0
        · subst e; first | (simpa only [Nat.add_zero] using this) | (simp; done)
        · rw [if_neg e]; exact this)
      flatI_one (by unfold maxLen; omega) (by omega) hB
    refine ⟨v', w', h1, ?_, h3, h5⟩
    have : IntOwn w' B v' (rs ++ xs) := by
      unfold IntOwn
      rw [List.length_append, show flatI (rs ++ xs) = flatI rs ++ flatI xs from by simp [flatI]]
      exact h2
    exact this
theorem wp_app_copy (w : World) {o : Oper} {a : Act} {K : Act → World → Prop} {Q : Exit → Act → World → Prop} (s x : Operand) (ho : o.op = .call { callee := .builtin .append, args := #[s, x], argTypes := #[52, 52] })
    (v : Value) (hs : a.eval s = v) (B : Nat) (rs : List Int) (hown : IntOwn w B v rs) (src : Option Addr) (xs : List Int) (c : Nat) (hx : a.eval x = .slice src xs.length c) (hsrc : IntAt src xs w) (hl : rs.length + xs.length ≤ 10000000) (hB : B ≤ w.heap.size)
    (h : ∀ v' w', IntOwn w' B v' (rs ++ xs) → w.grownBy w' v.ownBlock → (v'.ownBlock = v.ownBlock ∨ v'.ownBlock = some w.heap.size) → K (a.put o.dst v') w') : o.wp Tryz.prog a w K Q := by
  obtain ⟨v', w', hr, h2, h3, h5⟩ := run_app_copy w v B rs hown src xs c hsrc hl hB o.type
  unfold Oper.wp execOp
  simp only [ho, resolve, invoke, builtin, Sem.run_bind, Sem.run_pure, Result.andThen_ok, List.map_toArray, List.map_cons, List.map_nil, hs, hx, hr]
  exact h v' w' h2 h3 h5
theorem wpList_app_copy {ops : Array Oper} {rest : List Oper} (w : World) {o : Oper} {a : Act} {Q : Exit → Act → World → Prop} (hgd : o.guard = none) (s x : Operand) (ho : o.op = .call { callee := .builtin .append, args := #[s, x], argTypes := #[52, 52] })
    (v : Value) (hs : a.eval s = v) (B : Nat) (rs : List Int) (hown : IntOwn w B v rs) (src : Option Addr) (xs : List Int) (c : Nat) (hx : a.eval x = .slice src xs.length c) (hsrc : IntAt src xs w) (hl : rs.length + xs.length ≤ 10000000) (hB : B ≤ w.heap.size)
    (h : ∀ v' w', IntOwn w' B v' (rs ++ xs) → w.grownBy w' v.ownBlock → (v'.ownBlock = v.ownBlock ∨ v'.ownBlock = some w.heap.size) → wpList Tryz.prog ops Q rest (a.put o.dst v') w') : wpList Tryz.prog ops Q (o :: rest) a w :=
  wpList_plain hgd fun _ hK => wp_app_copy w s x ho v hs B rs hown src xs c hx hsrc hl hB fun v' w' h2 h3 h5 => hK _ _ (h v' w' h2 h3 h5)
def Far (u v : Value) : Prop := ∀ k, u.ownBlock = some k → v.ownBlock = some k → False
theorem Far.symm {u v : Value} (h : Far u v) : Far v u := fun k h1 h2 => h k h2 h1
theorem Far.ne {u v : Value} (h : Far u v) : u.ownBlock = none ∨ u.ownBlock ≠ v.ownBlock := by
  cases hu : u.ownBlock with
  | none => exact Or.inl rfl
  | some k => exact Or.inr fun e => h k hu e.symm
theorem Far.nil {v : Value} : Far (.slice none 0 0) v := fun k h => by cases h
theorem blk_grown {W w' : World} {row : Option Nat} {b : Nat} {x : Obj} (h : W.heap[b]? = some x) (hg : W.grownBy w' row) (hne : some b ≠ row) : w'.heap[b]? = some x := (hg.block b (blk_lt h) hne).trans h
section
variable {W : World}
theorem own_new {W : World} {B : Nat} (hB : B ≤ W.heap.size) : IntOwn (W.alloc (.cells #[] 2)) B (.slice (some ⟨W.heap.size, 0, none⟩) 0 0) [] :=
  ⟨rfl, Or.inr ⟨_, _, _, rfl, hB, blk_new W _, Nat.le_refl _, by decide, rfl, rfl⟩⟩
theorem own_type {B g : Nat} {v : Value} {xs : List Int} (h : IntOwn W B v xs) (hg : v.ownBlock = some g) : ∃ cur, W.heap[g]? = some (.cells cur 2 (0, 0)) := by
  rcases h.2 with ⟨rfl, -⟩ | ⟨g', cap, cur, rfl, -, h3, -⟩
  · cases hg
  · obtain rfl := Option.some.inj hg
    exact ⟨cur, h3⟩
end
/-- A row of numbers, cell by cell, at its own addresses. -/
theorem int_cells {a : Option Addr} {xs : List Int} {w : World} (h : IntAt a xs w) (hn : xs ≠ []) : ∃ b o, a = some ⟨b, o, none⟩ ∧ ∀ k, k < xs.length → w.cell? ⟨b, o + k, none⟩ = some (.int .i64 (xs.getD k 0)) := by
  obtain ⟨b, o, rfl, h1, h2⟩ := h hn
  exact ⟨b, o, rfl, h2⟩
def updF {α : Type} (f : Nat → α) (s : Nat) (v : α) : Nat → α := fun t => if t = s then v else f t
theorem updF_at {α : Type} {f : Nat → α} {s : Nat} {v : α} : updF f s v s = v := if_pos rfl
theorem updF_ne {α : Type} {f : Nat → α} {s t : Nat} {v : α} (h : t ≠ s) : updF f s v t = f t := if_neg h
structure MQ (w : World) (B : Nat) (L : Nat → Option Obj) (f : Nat → Option (Value × List Int)) (W : World) : Prop where
  hB : w.heap.size ≤ B
  hL : ∀ p o, L p = some o → p < B ∨ ∃ cs t fr, o = .cells cs t fr ∧ t ≠ 2
  bel : Below w.heap.size w W
  sz : B ≤ W.heap.size
  sb : ∀ p o, L p = some o → W.heap[p]? = some o
  own : ∀ s v xs, f s = some (v, xs) → IntOwn W B v xs
  far : ∀ s s' v xs v' xs', s ≠ s' → f s = some (v, xs) → f s' = some (v', xs') → Far v v'
section
variable {w W w2 w' : World} {B : Nat} {L L' : Nat → Option Obj} {f f' : Nat → Option (Value × List Int)} {s : Nat} {v v' : Value} {xs ys : List Int}
theorem MQ.congr (h : MQ w B L f W) (hf : ∀ s, f' s = f s) : MQ w B L f' W := by
  obtain rfl : f' = f := funext hf
  exact h
theorem MQ.congrL (h : MQ w B L f W) (hf : ∀ s, L' s = L s) : MQ w B L' f W := by
  obtain rfl : L' = L := funext hf
  exact h
theorem MQ.less (h : MQ w B L f W) (hf : ∀ s p, f' s = some p → f s = some p) : MQ w B L f' W :=
  ⟨h.hB, h.hL, h.bel, h.sz, h.sb, fun s v xs e => h.own s v xs (hf s _ e), fun s s' v xs v' xs' n e e' => h.far s s' v xs v' xs' n (hf s _ e) (hf s' _ e')⟩
theorem MQ.lessL (h : MQ w B L f W) (hf : ∀ p o, L' p = some o → L p = some o) : MQ w B L' f W :=
  ⟨h.hB, fun p o e => h.hL p o (hf p o e), h.bel, h.sz, fun p o e => h.sb p o (hf p o e), h.own, h.far⟩
theorem MQ.step (h : MQ w B L f W) (hb : Below W.heap.size W w2) : MQ w B L f w2 :=
  ⟨h.hB, h.hL, bStep h.bel hb, Nat.le_trans h.sz hb.size, fun p o e => blk_step (h.sb p o e) hb, fun s v xs e => (h.own s v xs e).step hb, h.far⟩
theorem MQ.put (h : MQ w B L f W) (s : Nat) (ho : IntOwn W B v xs) (hf : ∀ s' v' xs', s' ≠ s → f s' = some (v', xs') → Far v v') : MQ w B L (updF f s (some (v, xs))) W := by
  refine ⟨h.hB, h.hL, h.bel, h.sz, h.sb, fun t v' xs' e => ?_, fun t t' v1 x1 v2 x2 n e e' => ?_⟩
  · by_cases c : t = s
    · subst c
      rw [updF_at] at e
      cases e
      exact ho
    · rw [updF_ne c] at e
      exact h.own t v' xs' e
  · by_cases c : t = s
    · subst c
      rw [updF_at] at e
      rw [updF_ne (Ne.symm n)] at e'
      cases e
      exact hf t' v2 x2 (Ne.symm n) e'
    · by_cases c' : t' = s
      · subst c'
        rw [updF_at] at e'
        rw [updF_ne c] at e
        cases e'
        exact (hf t v1 x1 c e).symm
      · rw [updF_ne c] at e
        rw [updF_ne c'] at e'
        exact h.far t t' v1 x1 v2 x2 n e e'
theorem MQ.fresh0 (h : MQ w B L f W) (s : Nat) : MQ w B L (updF f s (some (.slice (some ⟨W.heap.size, 0, none⟩) 0 0, []))) (W.alloc (.cells #[] 2)) :=
  (h.step bAlZ).put s (own_new h.sz) fun s' v' xs' _ e k e1 e2 => by
    have := ((h.own s' v' xs' e).lt k e2).2
    simp [Value.ownBlock] at e1
    omega
theorem own_new1 {W : World} {B : Nat} {x : Int} (hB : B ≤ W.heap.size) : IntOwn (W.alloc (.cells #[.int .i64 x] 2)) B (.slice (some ⟨W.heap.size, 0, none⟩) 1 1) [x] :=
  ⟨rfl, Or.inr ⟨_, _, _, rfl, hB, blk_new W _, Nat.le_refl _, by decide, rfl, rfl⟩⟩
theorem MQ.fresh1 (h : MQ w B L f W) (s : Nat) (x : Int) : MQ w B L (updF f s (some (.slice (some ⟨W.heap.size, 0, none⟩) 1 1, [x]))) (W.alloc (.cells #[.int .i64 x] 2)) :=
  (h.step bAlZ).put s (own_new1 h.sz) fun s' v' xs' _ e k e1 e2 => by
    have := ((h.own s' v' xs' e).lt k e2).2
    simp [Value.ownBlock] at e1
    omega
theorem own_type2 {B g : Nat} {v : Value} {xs : List Int} (h : IntOwn W B v xs) (hg : v.ownBlock = some g) : ∃ cur, W.heap[g]? = some (.cells cur 2 (0, 0)) := own_type h hg
theorem MQ.app (h : MQ w B L f W) (s : Nat) (hs : f s = some (v, xs)) (ho : IntOwn w' B v' ys) (hg : W.grownBy w' v.ownBlock) (hat : v'.ownBlock = v.ownBlock ∨ v'.ownBlock = some W.heap.size) : MQ w B L (updF f s (some (v', ys))) w' := by
  have hB := h.hB
  have h0 := h.own s v xs hs
  have hr := own_ge h0
  have hlt : ∀ b, b < B → some b ≠ v.ownBlock := fun b hb e => by have := hr _ e.symm; omega
  have hob : ∀ p o, L p = some o → w'.heap[p]? = some o := fun p o e => by
    refine blk_grown (h.sb p o e) hg ?_
    rcases h.hL p o e with q | ⟨cs, t, fr, rfl, ht⟩
    · exact hlt p q
    · intro c
      obtain ⟨cur, hc⟩ := own_type h0 c.symm
      rw [h.sb p _ e] at hc
      have := Option.some.inj hc
      injection this with _ h2 _
      exact ht h2
  have h1 : MQ w B L (updF f s none) w' := by
    refine ⟨h.hB, h.hL, h.bel.grown hg (by have := h.bel.size; omega) fun k hk => by have := hr k hk; omega, Nat.le_trans h.sz hg.size, hob, fun t v1 x1 e => ?_, fun t t' v1 x1 v2 x2 n e e' => ?_⟩
    · by_cases c : t = s
      · subst c; rw [updF_at] at e; cases e
      · rw [updF_ne c] at e
        exact World.ownsRow.kept (h.own t v1 x1 e) hg (h.far t s v1 x1 v xs c e hs).ne
    · by_cases c : t = s
      · subst c; rw [updF_at] at e; cases e
      · by_cases c' : t' = s
        · subst c'; rw [updF_at] at e'; cases e'
        · rw [updF_ne c] at e
          rw [updF_ne c'] at e'
          exact h.far t t' v1 x1 v2 x2 n e e'
  refine (h1.put s ho fun s' v1 x1 n e k e1 e2 => ?_).congr fun t => ?_
  · rw [updF_ne n] at e
    rcases hat with q | q
    · exact h.far s s' v xs v1 x1 (Ne.symm n) hs e k (q.symm.trans e1) e2
    · have := ((h.own s' v1 x1 e).lt k e2).2
      rw [q] at e1
      simp at e1
      omega
  · by_cases c : t = s
    · subst c; rw [updF_at, updF_at]
    · rw [updF_ne c, updF_ne c, updF_ne c]
theorem MQ.obj {cs : Array Value} {t : TypeId} (h : MQ w B L f W) (ht : t ≠ 2) : MQ w B (updF L W.heap.size (some (.cells cs t (0, 0)))) f (W.alloc (.cells cs t (0, 0))) := by
  have k := h.step (bAlZ (o := .cells cs t (0, 0)))
  refine ⟨k.hB, fun p o e => ?_, k.bel, k.sz, fun p o e => ?_, k.own, k.far⟩
  · by_cases c : p = W.heap.size
    · subst c; rw [updF_at] at e; cases e; exact Or.inr ⟨_, _, _, rfl, ht⟩
    · rw [updF_ne c] at e; exact h.hL p o e
  · by_cases c : p = W.heap.size
    · subst c; rw [updF_at] at e; cases e; exact blk_new W _
    · rw [updF_ne c] at e; exact k.sb p o e
theorem MQ.store {p o : Nat} {u : Value} {cs : Array Value} {t : TypeId} (h : MQ w B L f W) (hp : L p = some (.cells cs t (0, 0))) (hw : w.heap.size ≤ p) (ht : t ≠ 2) : MQ w B (updF L p (some (.cells (cs.setIfInBounds o u) t (0, 0)))) f (W.setCell ⟨p, o, none⟩ u) := by
  have hne : ∀ s v xs, f s = some (v, xs) → v.ownBlock ≠ some p := fun s v xs e c => by
    obtain ⟨cur, hc⟩ := own_type (h.own s v xs e) c
    rw [h.sb p _ hp] at hc
    have := Option.some.inj hc
    injection this with _ h2 _
    exact ht h2
  refine ⟨h.hB, fun q ob e => ?_, h.bel.setCell hw _, by simpa using h.sz, fun q ob e => ?_, fun s v xs e => ownsRow_setCell_other (h.own s v xs e) (hne s v xs e) _, h.far⟩
  · by_cases c : q = p
    · subst c; rw [updF_at] at e; cases e; exact Or.inr ⟨_, _, _, rfl, ht⟩
    · rw [updF_ne c] at e; exact h.hL q ob e
  · by_cases c : q = p
    · subst c; rw [updF_at] at e; cases e; exact blk_set (h.sb q _ hp)
    · rw [updF_ne c] at e; exact blk_set_other (h.sb q ob e) c
end
theorem MQ.perm {w W : World} {B : Nat} {L : Nat → Option Obj} {f f' : Nat → Option (Value × List Int)} (h : MQ w B L f W) (g : Nat → Nat) (hg : ∀ s s', s ≠ s' → g s ≠ g s') (hf : ∀ s, f' s = f (g s)) : MQ w B L f' W :=
  ⟨h.hB, h.hL, h.bel, h.sz, h.sb, fun s v xs e => h.own (g s) v xs ((hf s).symm.trans e), fun s s' v xs v' xs' n e e' => h.far (g s) (g s') v xs v' xs' (hg s s' n) ((hf s).symm.trans e) ((hf s').symm.trans e')⟩
theorem own_rd {W : World} {B : Nat} {rs : List Int} {g n c : Nat} {k : Nat} (h : IntOwn W B (.slice (some ⟨g, 0, none⟩) n c) rs) (hk : k < rs.length) : W.cell? ⟨g, k, none⟩ = some (.int .i64 (rs.getD k 0)) := by
  obtain ⟨_, _, e, q⟩ := h.row
  cases e
  obtain ⟨b, o, e2, q2⟩ := int_cells q (fun h => by rw [h] at hk; simp at hk)
  cases e2
  simpa using q2 k hk
/-- A row that is built. -/
theorem own_newN {W : World} {B : Nat} {xs : List Int} (hl : xs.length ≤ maxLen) (hB : B ≤ W.heap.size) : IntOwn (W.alloc (.cells (flatI xs).toArray 2)) B (.slice (some ⟨W.heap.size, 0, none⟩) xs.length xs.length) xs :=
  ⟨by simp [flatI], Or.inr ⟨_, _, _, rfl, hB, blk_new W _, Nat.le_refl _, hl, by simp [flatI], by rw [List.take_of_length_le (by simp [flatI])]⟩⟩
theorem MQ.freshN {w W : World} {B : Nat} {L : Nat → Option Obj} {f : Nat → Option (Value × List Int)} (h : MQ w B L f W) (s : Nat) (xs : List Int) (hl : xs.length ≤ maxLen) : MQ w B L (updF f s (some (.slice (some ⟨W.heap.size, 0, none⟩) xs.length xs.length, xs))) (W.alloc (.cells (flatI xs).toArray 2)) :=
  (h.step bAlZ).put s (own_newN hl h.sz) fun s' v' xs' _ e k e1 e2 => by
    have := ((h.own s' v' xs' e).lt k e2).2
    simp [Value.ownBlock] at e1
    omega
end Go.Proofs.YtpdhkgfdmpofiaaGreatDoor
