/-
 A registry in memory: an entry comes to a pack.
-/
import Derived.Test.YtmpilgkfbibhlaaGreatDoorG22R
import Derived.Test.YtmpilgkfbibhlaaGreatDoorG4R
import Derived.Test.YtmpilgkfbibhlaaGreatDoorG5R
import Derived.Deep.MidRow
import Derived.Deep.Cut
set_option linter.unusedSimpArgs false
set_option linter.unusedVariables false
namespace Go.Proofs.YtmpilgkfbibhlaaGreatDoor
open Sx Go.RowKit Mr
theorem own_kept {W W5 : World} {B B2 E sz n E2 sz2 n2 : Nat} {v v2 : Value} {xs xs2 : List Value} (h : W.ownsRow B E sz v n xs) (hg : W.grownBy W5 v2.ownBlock) (h2 : W.ownsRow B2 E2 sz2 v2 n2 xs2) (hE : E ≠ E2) : W5.ownsRow B E sz v n xs :=
 World.ownsRow.kept h hg (by
  cases hb : v.ownBlock with
  | none => exact Or.inl rfl
  | some k =>
   refine Or.inr fun e => ?_
   obtain ⟨-, c1, e1⟩ := own_typed h hb
   obtain ⟨-, c2, e2⟩ := own_typed h2 e.symm
   rw [e1] at e2
   simp at e2
   exact hE e2.2)
theorem blk_kept {W W5 : World} {B E sz n b : Nat} {T : TypeId} {v : Value} {xs : List Value} {cs : Array Value} {fr : Nat × Nat} (hb : W.heap[b]? = some (.cells cs T fr)) (hg : W.grownBy W5 v.ownBlock) (h : W.ownsRow B E sz v n xs) (hT : T ≠ E) : W5.heap[b]? = some (.cells cs T fr) := grown_other h hg hb hT
section
variable {B R : Nat} {g : RegS} {vb vp : Value} {W W5 : World}
theorem RegAt.setEs (h : RegAt B R g vb vp W) {i PB cp : Nat} {q : PkV} {y : Ent} {v' : Value} (hvp : vp = .slice (some ⟨PB, 0, none⟩) g.qs.length cp) (hq : g.qs[i]? = some q) (hg : W.grownBy W5 q.ve.ownBlock) (ho : W5.ownsRow B 31 10 v' (q.es.length + 1) (flatY q.es ++ entC y))
  (hat : v'.ownBlock = q.ve.ownBlock ∨ v'.ownBlock = some W.heap.size) : RegAt B R { g with qs := g.qs.set i { q with es := q.es ++ [y], ve := v' } } vb vp (W5.setCell ⟨PB, i * 20 + 19, none⟩ v') := by
 have hi := (List.getElem?_eq_some_iff.1 hq).1
 have hqm := List.mem_of_getElem? hq
 obtain ⟨PB2, cp2, cur, ea, -, hPB, hcells⟩ := h.packs (by rintro e; rw [e] at hi; simp at hi)
 rw [hvp] at ea
 cases ea
 have hqe := h.es q hqm
 have hPB5 := blk_kept hPB hg hqe (by decide)
 have hK : KeepT W (W5.setCell ⟨PB, i * 20 + 19, none⟩ v') := fun b cs T fr e n1 n2 n3 => keepT_set hPB5 (Or.inr (Or.inl rfl)) b cs T fr (blk_kept e hg hqe n3) n1 n2 n3
 obtain ⟨h1, h2, ⟨ab, cb, h3, h4⟩, h5, h6, h7, h8, h9⟩ := h
 have hRP : R ≠ PB := fun e => by
  subst e
  rw [h1] at hPB
  exact absurd hPB (by simp)
 have hlen : (g.qs.set i { q with es := q.es ++ [y], ve := v' }).length = g.qs.length := List.length_set
 have hOB : OnlyB 116 PB (i * 20) 20 W5 (W5.setCell ⟨PB, i * 20 + 19, none⟩ v') := (OnlyB.start hPB5).set (j := 19) (by decide) v'
 have hset := blk_set (o := i * 20 + 19) (v := v') hPB5
 have hsz : i * 20 + 20 ≤ cur.size := by
  have := hcells i q hq 19 _ rfl
  have := (Array.getElem?_eq_some_iff.1 this).1
  omega
 refine ⟨blk_set_other (blk_kept h1 hg hqe (by decide)) hRP, h2, ⟨ab, cb, h3, hK.books h4⟩, ?_, fun p hp => ?_, fun p hp => ?_, fun a b p p2 hab ha hb => ?_, h9⟩
 ·show (W5.setCell ⟨PB, i * 20 + 19, none⟩ v').ownsRow B 116 20 vp (g.qs.set i { q with es := q.es ++ [y], ve := v' }).length (flatK (g.qs.set i { q with es := q.es ++ [y], ve := v' }))
  rw [hlen]
  refine row_set (own_kept h5 hg hqe (by decide)) rfl (by rw [hvp]; rfl) hi hOB fun j u hj => blk_cell hset ?_
  have hj20 : j < 20 := by have := (List.getElem?_eq_some_iff.1 hj).1; rwa [pkC_len] at this
  rw [Array.getElem?_setIfInBounds]
  by_cases c : i * 20 + 19 = i * 20 + j
  ·obtain rfl : j = 19 := by omega
   rw [if_pos rfl, if_pos (by omega)]
   exact hj
  ·rw [if_neg c]
   refine hcells i q hq j u ?_
   have hc : j < 19 := by omega
   have e : (pkC { q with es := q.es ++ [y], ve := v' }).take 19 = (pkC q).take 19 := rfl
   have e2 := congrArg (fun l => l[j]?) e
   simp only [List.getElem?_take_of_lt hc] at e2
   rw [← e2]; exact hj
 ·rcases mem_set hp with rfl | ⟨j, -, hj⟩
  ·exact ⟨hK.srow (h6 q hqm).1, hK.srow (h6 q hqm).2.1, (h6 q hqm).2.2⟩
  ·have := h6 p (List.mem_of_getElem? hj)
   exact ⟨hK.srow this.1, hK.srow this.2.1, this.2.2⟩
 ·rcases mem_set hp with rfl | ⟨j, hne, hj⟩
  ·refine own_setT ?_ hPB5 (by decide)
   show W5.ownsRow B 31 10 v' (q.es ++ [y]).length (flatY (q.es ++ [y]))
   rw [List.length_append, flatY_snoc]
   exact ho
  ·exact own_setT (World.ownsRow.kept (h7 p (List.mem_of_getElem? hj)) hg (h8 j i p q hne hj hq).ne) hPB5 (by decide)
 ·have key : ∀ (j : Nat) (x : PkV), (g.qs.set i { q with es := q.es ++ [y], ve := v' })[j]? = some x → (j = i ∧ x.ve = v') ∨ (j ≠ i ∧ g.qs[j]? = some x) := fun j x hx => by
   by_cases c : j = i
   ·subst c
    rw [List.getElem?_set_self hi] at hx
    obtain rfl := Option.some.inj hx
    exact Or.inl ⟨rfl, rfl⟩
   ·rw [List.getElem?_set_ne (fun e => c e.symm)] at hx
    exact Or.inr ⟨c, hx⟩
  have far : ∀ (j : Nat) (x : PkV), j ≠ i → g.qs[j]? = some x → Far v' x.ve := fun j x hne hx k e1 e2 => by
   rcases hat with hat | hat
   ·exact h8 i j q x (fun e => hne e.symm) hq hx k (hat.symm.trans e1) e2
   ·rw [hat] at e1
    have := (World.ownsRow.lt (h7 x (List.mem_of_getElem? hx)) k e2).2
    simp at e1
    omega
  rcases key a p ha with ⟨rfl, e1⟩ | ⟨n1, e1⟩
  ·rcases key b p2 hb with ⟨rfl, e2⟩ | ⟨n2, e2⟩
   ·exact absurd rfl hab
   ·rw [e1]; exact far b p2 n2 e2
  ·rcases key b p2 hb with ⟨rfl, e2⟩ | ⟨n2, e2⟩
   ·rw [e2]; exact (far a p n1 e1).symm
   ·exact h8 a b p p2 hab e1 e2
end
end Go.Proofs.YtmpilgkfbibhlaaGreatDoor
namespace Go.Proofs.YtmpilgkfbibhlaaGreatDoor
open Sx Go.RowKit Mr
theorem ent_there2 {W : World} {r : Nat} (hz : W.heap[r]? = some (.cells zeroE 31 (0, 0))) : W.there r 0 10 := by
  intro j hj
  refine ⟨?_, blk_free hz⟩
  have : j < zeroE.size := hj
  rw [blk_cell hz (v := zeroE[j]) (by rw [Nat.zero_add, Array.getElem?_eq_getElem this])]
  rfl
set_option maxHeartbeats 1000000 in
theorem ent_fill {W : World} {r : Nat} (y : Ent) (hz : W.heap[r]? = some (.cells zeroE 31 (0, 0))) : (W.setCells r 0 (entC y)).heap[r]? = some (.cells (entC y).toArray 31 (0, 0)) := by
  obtain ⟨⟨k, t, a, b, nm, ot⟩, by_, pad, head, tag⟩ := y
  unfold zeroE at hz
  have z0 : (W.setCell ⟨r, 0, none⟩ (.int .i64 k)).heap[r]? = some (.cells #[(.int .i64 k), (.int .i64 0), (.int .i64 0), (.int .i64 0), (.string ⟨#[]⟩), (.string ⟨#[]⟩), (.int .i64 0), (.int .i64 0), (.int .u64 0), (.int .u64 0)] 31 (0, 0)) := blk_set hz
  have z1 : ((W.setCell ⟨r, 0, none⟩ (.int .i64 k)).setCell ⟨r, 1, none⟩ (.int .i64 t)).heap[r]? = some (.cells #[(.int .i64 k), (.int .i64 t), (.int .i64 0), (.int .i64 0), (.string ⟨#[]⟩), (.string ⟨#[]⟩), (.int .i64 0), (.int .i64 0), (.int .u64 0), (.int .u64 0)] 31 (0, 0)) := blk_set z0
  have z2 : (((W.setCell ⟨r, 0, none⟩ (.int .i64 k)).setCell ⟨r, 1, none⟩ (.int .i64 t)).setCell ⟨r, 2, none⟩ (.int .i64 a)).heap[r]? = some (.cells #[(.int .i64 k), (.int .i64 t), (.int .i64 a), (.int .i64 0), (.string ⟨#[]⟩), (.string ⟨#[]⟩), (.int .i64 0), (.int .i64 0), (.int .u64 0), (.int .u64 0)] 31 (0, 0)) := blk_set z1
  have z3 : ((((W.setCell ⟨r, 0, none⟩ (.int .i64 k)).setCell ⟨r, 1, none⟩ (.int .i64 t)).setCell ⟨r, 2, none⟩ (.int .i64 a)).setCell ⟨r, 3, none⟩ (.int .i64 b)).heap[r]? = some (.cells #[(.int .i64 k), (.int .i64 t), (.int .i64 a), (.int .i64 b), (.string ⟨#[]⟩), (.string ⟨#[]⟩), (.int .i64 0), (.int .i64 0), (.int .u64 0), (.int .u64 0)] 31 (0, 0)) := blk_set z2
  have z4 : (((((W.setCell ⟨r, 0, none⟩ (.int .i64 k)).setCell ⟨r, 1, none⟩ (.int .i64 t)).setCell ⟨r, 2, none⟩ (.int .i64 a)).setCell ⟨r, 3, none⟩ (.int .i64 b)).setCell ⟨r, 4, none⟩ (.string nm)).heap[r]? = some (.cells #[(.int .i64 k), (.int .i64 t), (.int .i64 a), (.int .i64 b), (.string nm), (.string ⟨#[]⟩), (.int .i64 0), (.int .i64 0), (.int .u64 0), (.int .u64 0)] 31 (0, 0)) := blk_set z3
  have z5 : ((((((W.setCell ⟨r, 0, none⟩ (.int .i64 k)).setCell ⟨r, 1, none⟩ (.int .i64 t)).setCell ⟨r, 2, none⟩ (.int .i64 a)).setCell ⟨r, 3, none⟩ (.int .i64 b)).setCell ⟨r, 4, none⟩ (.string nm)).setCell ⟨r, 5, none⟩ (.string ot)).heap[r]? = some (.cells #[(.int .i64 k), (.int .i64 t), (.int .i64 a), (.int .i64 b), (.string nm), (.string ot), (.int .i64 0), (.int .i64 0), (.int .u64 0), (.int .u64 0)] 31 (0, 0)) := blk_set z4
  have z6 : (((((((W.setCell ⟨r, 0, none⟩ (.int .i64 k)).setCell ⟨r, 1, none⟩ (.int .i64 t)).setCell ⟨r, 2, none⟩ (.int .i64 a)).setCell ⟨r, 3, none⟩ (.int .i64 b)).setCell ⟨r, 4, none⟩ (.string nm)).setCell ⟨r, 5, none⟩ (.string ot)).setCell ⟨r, 6, none⟩ (.int .i64 by_)).heap[r]? = some (.cells #[(.int .i64 k), (.int .i64 t), (.int .i64 a), (.int .i64 b), (.string nm), (.string ot), (.int .i64 by_), (.int .i64 0), (.int .u64 0), (.int .u64 0)] 31 (0, 0)) := blk_set z5
  have z7 : ((((((((W.setCell ⟨r, 0, none⟩ (.int .i64 k)).setCell ⟨r, 1, none⟩ (.int .i64 t)).setCell ⟨r, 2, none⟩ (.int .i64 a)).setCell ⟨r, 3, none⟩ (.int .i64 b)).setCell ⟨r, 4, none⟩ (.string nm)).setCell ⟨r, 5, none⟩ (.string ot)).setCell ⟨r, 6, none⟩ (.int .i64 by_)).setCell ⟨r, 7, none⟩ (.int .i64 pad)).heap[r]? = some (.cells #[(.int .i64 k), (.int .i64 t), (.int .i64 a), (.int .i64 b), (.string nm), (.string ot), (.int .i64 by_), (.int .i64 pad), (.int .u64 0), (.int .u64 0)] 31 (0, 0)) := blk_set z6
  have z8 : (((((((((W.setCell ⟨r, 0, none⟩ (.int .i64 k)).setCell ⟨r, 1, none⟩ (.int .i64 t)).setCell ⟨r, 2, none⟩ (.int .i64 a)).setCell ⟨r, 3, none⟩ (.int .i64 b)).setCell ⟨r, 4, none⟩ (.string nm)).setCell ⟨r, 5, none⟩ (.string ot)).setCell ⟨r, 6, none⟩ (.int .i64 by_)).setCell ⟨r, 7, none⟩ (.int .i64 pad)).setCell ⟨r, 8, none⟩ (.int .u64 (head : Int))).heap[r]? = some (.cells #[(.int .i64 k), (.int .i64 t), (.int .i64 a), (.int .i64 b), (.string nm), (.string ot), (.int .i64 by_), (.int .i64 pad), (.int .u64 (head : Int)), (.int .u64 0)] 31 (0, 0)) := blk_set z7
  have z9 : ((((((((((W.setCell ⟨r, 0, none⟩ (.int .i64 k)).setCell ⟨r, 1, none⟩ (.int .i64 t)).setCell ⟨r, 2, none⟩ (.int .i64 a)).setCell ⟨r, 3, none⟩ (.int .i64 b)).setCell ⟨r, 4, none⟩ (.string nm)).setCell ⟨r, 5, none⟩ (.string ot)).setCell ⟨r, 6, none⟩ (.int .i64 by_)).setCell ⟨r, 7, none⟩ (.int .i64 pad)).setCell ⟨r, 8, none⟩ (.int .u64 (head : Int))).setCell ⟨r, 9, none⟩ (.int .u64 (tag : Int))).heap[r]? = some (.cells #[(.int .i64 k), (.int .i64 t), (.int .i64 a), (.int .i64 b), (.string nm), (.string ot), (.int .i64 by_), (.int .i64 pad), (.int .u64 (head : Int)), (.int .u64 (tag : Int))] 31 (0, 0)) := blk_set z8
  exact z9
structure EnS (w0 : World) (y : Ent) (b0 b1 : Bool) (v0 : Value) (W : World) : Prop where
  bel : Below w0.heap.size w0 W
  bx : b0 = true → ∃ r, v0 = .pointer (some ⟨r, 0, none⟩) ∧ w0.heap.size ≤ r ∧ W.heap[r]? = some (.cells (bif b1 then (entC y).toArray else zeroE) 31 (0, 0))
  n : b0 = false → b1 = false
section
variable {w0 W w2 : World} {y : Ent} {b0 b1 : Bool} {v0 : Value}
theorem EnS.step (h : EnS w0 y b0 b1 v0 W) (hb : Below W.heap.size W w2) : EnS w0 y b0 b1 v0 w2 := ⟨bStep h.bel hb, fun e => by obtain ⟨r, q1, q2, q3⟩ := h.bx e; exact ⟨r, q1, q2, blk_step q3 hb⟩, h.n⟩
theorem EnS.mk0 (h : EnS w0 y false false v0 W) : EnS w0 y true false (.pointer (some ⟨W.heap.size, 0, none⟩)) (W.alloc (.cells zeroE 31)) := ⟨bStep h.bel bAl, fun _ => ⟨_, rfl, h.bel.size, blk_new W _⟩, fun e => by cases e⟩
theorem EnS.put {r : Nat} (h : EnS w0 y true false (.pointer (some ⟨r, 0, none⟩)) W) : EnS w0 y true true (.pointer (some ⟨r, 0, none⟩)) (W.setCells r 0 (entC y)) := by
  obtain ⟨r2, q1, q2, q3⟩ := h.bx rfl
  cases q1
  exact ⟨bSetCellsE _ _ h.bel q2, fun _ => ⟨r, rfl, q2, ent_fill y q3⟩, fun e => by cases e⟩
end
structure ApS (P0 P2 : World → Prop) (Bs r : Nat) (y : Ent) (ve : Value) (n : Nat) (xs : List Value) (b0 bY b1 b2 b3 : Bool) (v0 vY v1 v2 : Value) (W : World) : Prop where
  a : b2 = false → P0 W
  m : b2 = true → b3 = false → ∃ Wb, P0 Wb ∧ Wb.grownBy W ve.ownBlock ∧ (v2.ownBlock = ve.ownBlock ∨ v2.ownBlock = some Wb.heap.size) ∧ W.ownsRow Bs 31 10 v2 (n + 1) (xs ++ entC y)
  z : b3 = true → P2 W
  r0 : b0 = true → v0 = ve
  r1 : b1 = true → b2 = false → ∃ g, v1 = .slice (some ⟨g, 0, none⟩) 1 1 ∧ W.heap[g]? = some (.cells (entC y).toArray 31 (0, 0))
  n0 : b0 = false → b2 = false
  n1 : b1 = false → b2 = false
  n2 : b2 = false → b3 = false
  ry : bY = true → vY = entX y
  nY : bY = false → b1 = false
  yb : b2 = false → W.heap[r]? = some (.cells (entC y).toArray 31 (0, 0))
  hb : Bs ≤ W.heap.size
theorem grown_step {W W1 w2 : World} {k : Option Nat} (h : W.grownBy W1 k) (hb : Below W1.heap.size W1 w2) : W.grownBy w2 k :=
  ⟨hb.os.trans h.os, hb.tape.trans h.tape, hb.output.trans h.output, Nat.le_trans h.size hb.size, fun j hj hn => (hb.block j (Nat.lt_of_lt_of_le hj h.size)).trans (h.block j hj hn)⟩
theorem infoEnt : (Tryz.prog.info? 31).map (fun i => (i.zero, i.size, i.bytes)) = some (some (.agg #[.int .i64 0, .int .i64 0, .int .i64 0, .int .i64 0, .string ⟨#[]⟩, .string ⟨#[]⟩, .int .i64 0, .int .i64 0, .int .u64 0, .int .u64 0]), 10, 96) := by kernel_rfl
theorem entC_one1 (y : Ent) : ∀ u ∈ entC y, u.oneCell' = true := by
  obtain ⟨⟨k, t, a, b, nm, ot⟩, by_, pad, head, tag⟩ := y
  intro v hv
  simp only [entC, List.mem_cons, List.not_mem_nil, or_false] at hv
  rcases hv with rfl | rfl | rfl | rfl | rfl | rfl | rfl | rfl | rfl | rfl <;> rfl
section
variable {P0 P2 : World → Prop} {Bs r n : Nat} {y : Ent} {ve : Value} {xs : List Value} {b0 bY b1 b2 b3 : Bool} {v0 vY v1 v2 : Value} {W w2 : World}
theorem ApS.step (hP : ∀ W w2, P0 W → Below W.heap.size W w2 → P0 w2) (hP2 : ∀ W w2, P2 W → Below W.heap.size W w2 → P2 w2) (h : ApS P0 P2 Bs r y ve n xs b0 bY b1 b2 b3 v0 vY v1 v2 W) (hb : Below W.heap.size W w2) : ApS P0 P2 Bs r y ve n xs b0 bY b1 b2 b3 v0 vY v1 v2 w2 :=
  ⟨fun e => hP _ _ (h.a e) hb, fun e1 e2 => by obtain ⟨Wb, q1, q2, q3, q4⟩ := h.m e1 e2; exact ⟨Wb, q1, grown_step q2 hb, q3, own_step q4 hb⟩, fun e => hP2 _ _ (h.z e) hb, h.r0,
   fun e1 e2 => by obtain ⟨g, q1, q2⟩ := h.r1 e1 e2; exact ⟨g, q1, blk_step q2 hb⟩, h.n0, h.n1, h.n2, h.ry, h.nY, (fun e => blk_step (h.yb e) hb), Nat.le_trans h.hb hb.size⟩
theorem ApS.mk0 (h : ApS P0 P2 Bs r y ve n xs false bY b1 false false v0 vY v1 v2 W) : ApS P0 P2 Bs r y ve n xs true bY b1 false false ve vY v1 v2 W :=
  ⟨h.a, (fun e => by cases e), (fun e => by cases e), fun _ => rfl, h.r1, (fun e => by cases e), h.n1, h.n2, h.ry, h.nY, h.yb, h.hb⟩
theorem ApS.mkY (h : ApS P0 P2 Bs r y ve n xs b0 false false false false v0 vY v1 v2 W) : ApS P0 P2 Bs r y ve n xs b0 true false false false v0 (entX y) v1 v2 W :=
  ⟨h.a, (fun e => by cases e), (fun e => by cases e), h.r0, h.r1, h.n0, h.n1, h.n2, (fun _ => rfl), (fun e => by cases e), h.yb, h.hb⟩
theorem ApS.mk1 (hP : ∀ W w2, P0 W → Below W.heap.size W w2 → P0 w2) (h : ApS P0 P2 Bs r y ve n xs b0 true false false false v0 vY v1 v2 W) : ApS P0 P2 Bs r y ve n xs b0 true true false false v0 vY (.slice (some ⟨W.heap.size, 0, none⟩) 1 1) v2 (W.alloc (.cells (entC y).toArray 31)) :=
  ⟨fun e => hP _ _ (h.a e) bAl, (fun e => by cases e), (fun e => by cases e), h.r0, (fun _ _ => ⟨_, rfl, blk_new W _⟩), h.n0, (fun _ => rfl), h.n2, h.ry, (fun e => by cases e), (fun e => blk_step (h.yb e) bAl), Nat.le_trans h.hb bAl.size⟩
theorem ApS.app {o : Oper} {a : Act} {K : Act → World → Prop} {Q : Exit → Act → World → Prop} (hown : ∀ W, P0 W → W.ownsRow Bs 31 10 ve n xs) (hn : n ≤ 100000) (h : ApS P0 P2 Bs r y ve n xs true bY true false false v0 vY v1 v2 W)
    (s p : Operand) (ho : o.op = .call { callee := .builtin .append, args := #[s, p], argTypes := #[24, 24] }) (hs : a.eval s = v0) (hp : a.eval p = v1)
    (hK : ∀ v' W', ApS P0 P2 Bs r y ve n xs true bY true true false v0 vY v1 v' W' → K (a.put o.dst v') W') : o.wp Tryz.prog a W K Q := by
  obtain ⟨i0, hi, hz0, hz1, hz2⟩ := info_parts infoEnt
  obtain rfl := h.r0 rfl
  obtain ⟨g, rfl, hg⟩ := h.r1 rfl rfl
  refine wp_app (P := Tryz.prog) W s p 24 ho Bs 31 i0 _ 10 96 Tryz.underlying24 hi hz0 hz1 hz2 rfl (by decide) v0 n xs hs (hown W (h.a rfl)) (some ⟨g, 0, none⟩) 1 1 (entC y) hp (by rw [entC_len]) (fun _ => ⟨g, 0, rfl, fun j u hu => blk_cell hg (by rw [Nat.zero_add]; simpa using hu)⟩) (entC_one1 y) (by unfold maxLen; omega) (by omega) h.hb fun v' W' q1 q2 q3 => hK v' W' ?_
  exact ⟨(fun e => by cases e), (fun _ _ => ⟨W, h.a rfl, q2, q3, q1⟩), (fun e => by cases e), (fun _ => rfl), (fun _ e => by cases e), (fun e => by cases e), (fun e => by cases e), (fun e => by cases e), h.ry, h.nY, (fun e => by cases e), Nat.le_trans h.hb q2.size⟩
end
structure KeepB (S : Nat → Prop) (w W : World) : Prop where
  os : W.os = w.os
  tape : W.tape = w.tape
  output : W.output = w.output
  size : w.heap.size ≤ W.heap.size
  block : ∀ k, k < w.heap.size → ¬ S k → W.heap[k]? = w.heap[k]?
section
variable {S : Nat → Prop} {w W w2 : World}
theorem KeepB.of_below (h : Below w.heap.size w W) : KeepB S w W := ⟨h.os, h.tape, h.output, h.size, fun k hk _ => h.block k hk⟩
theorem KeepB.step (h : KeepB S w W) (hb : Below W.heap.size W w2) : KeepB S w w2 :=
  ⟨hb.os.trans h.os, hb.tape.trans h.tape, hb.output.trans h.output, Nat.le_trans h.size hb.size, fun k hk hn => (hb.block k (Nat.lt_of_lt_of_le hk h.size)).trans (h.block k hk hn)⟩
theorem KeepB.set {P o : Nat} {u : Value} (h : KeepB S w W) (hP : S P) : KeepB S w (W.setCell ⟨P, o, none⟩ u) := by
  refine ⟨h.os, h.tape, h.output, by simpa using h.size, fun k hk hn => ?_⟩
  rw [Below.heap_setCell _ _ _ _ (fun e => hn (by have e2 : k = P := e; rw [e2]; exact hP))]
  exact h.block k hk hn
theorem KeepB.grown {k0 : Option Nat} (h : KeepB S w W) (hg : W.grownBy w2 k0) (hS : ∀ k, k0 = some k → k < w.heap.size → S k) : KeepB S w w2 :=
  ⟨hg.os.trans h.os, hg.tape.trans h.tape, hg.output.trans h.output, Nat.le_trans h.size hg.size, fun k hk hn => (hg.block k (Nat.lt_of_lt_of_le hk h.size) (fun e => hn (hS k e.symm hk))).trans (h.block k hk hn)⟩
theorem KeepB.only {T : TypeId} {PB off m : Nat} (h : KeepB S w W) (ho : OnlyB T PB off m W w2) (hP : S PB) : KeepB S w w2 :=
  ⟨ho.os.trans h.os, ho.tape.trans h.tape, ho.output.trans h.output, Nat.le_trans h.size ho.size, fun k hk hn => (ho.block k (Nat.lt_of_lt_of_le hk h.size) (fun e => hn (e ▸ hP))).trans (h.block k hk hn)⟩
end
theorem RegAt.base {B R : Nat} {g : RegS} {vb vp : Value} {W : World} (h : RegAt B R g vb vp W) : B ≤ W.drew.heap.size := Nat.le_trans h.hB (Nat.le_of_lt (blk_lt h.reg))
structure EnC (B R : Nat) (g : RegS) (vb vp : Value) (y : Ent) (r E : Nat) (e : Evt) (S : Nat → Prop) (w W : World) : Prop where
  ra : RegAt B R g vb vp W
  yb : W.heap[r]? = some (.cells (entC y).toArray 31 (0, 0))
  eb : W.heap[E]? = some (.cells (evtC e).toArray 29 (0, 0))
  kp : KeepB S w W
section
variable {B R r E i PB cp k u : Nat} {g : RegS} {vb vp : Value} {y : Ent} {e : Evt} {S : Nat → Prop} {w W W5 w2 : World} {q q' : PkV} {v' : Value}
theorem EnC.step (h : EnC B R g vb vp y r E e S w W) (hb : Below W.heap.size W w2) : EnC B R g vb vp y r E e S w w2 := ⟨h.ra.step hb, blk_step h.yb hb, blk_step h.eb hb, h.kp.step hb⟩
theorem EnC.used (h : EnC B R g vb vp y r E e S w W) (hk : k < 8) (hS : S R) : EnC B R { g with used := g.used.set k u } vb vp y r E e S w (W.setCell ⟨R, 2 + k, none⟩ (.int .i64 (u : Int))) := by
  have hR := h.ra.reg
  refine ⟨h.ra.setUsed hk, blk_set_other h.yb (fun c => ?_), blk_set_other h.eb (fun c => ?_), h.kp.set hS⟩
  · have c2 : r = R := c
    have := h.yb
    rw [c2, hR] at this
    exact absurd this (by simp)
  · have c2 : E = R := c
    have := h.eb
    rw [c2, hR] at this
    exact absurd this (by simp)
theorem EnC.ents (h : EnC B R g vb vp y r E e S w W) (hvp : vp = .slice (some ⟨PB, 0, none⟩) g.qs.length cp) (hq : g.qs[i]? = some q) (hg : W.grownBy W5 q.ve.ownBlock) (ho : W5.ownsRow B 31 10 v' (q.es.length + 1) (flatY q.es ++ entC y))
    (hat : v'.ownBlock = q.ve.ownBlock ∨ v'.ownBlock = some W.heap.size) (hr : ∀ k, q.ve.ownBlock = some k → k ≠ r) (hS : S PB) (hS2 : ∀ k, q.ve.ownBlock = some k → k < w.heap.size → S k) :
    EnC B R { g with qs := g.qs.set i { q with es := q.es ++ [y], ve := v' } } vb vp y r E e S w (W5.setCell ⟨PB, i * 20 + 19, none⟩ v') := by
  have hqm := List.mem_of_getElem? hq
  obtain ⟨PB2, cp2, cur, ea, -, hPB, -⟩ := h.ra.packs (by rintro e; rw [e] at hq; cases hq)
  rw [hvp] at ea
  cases ea
  have hPB5 := blk_kept hPB hg (h.ra.es q hqm) (by decide)
  refine ⟨h.ra.setEs hvp hq hg ho hat, blk_set_other ((hg.block r (blk_lt h.yb) (fun c => hr r c.symm rfl)).trans h.yb) (fun c => ?_), blk_set_other (blk_kept h.eb hg (h.ra.es q hqm) (by decide)) (fun c => ?_), (h.kp.grown hg hS2).set hS⟩
  · have c2 : r = PB := c
    have := h.yb
    rw [c2, hPB] at this
    exact absurd this (by simp)
  · have c2 : E = PB := c
    have := h.eb
    rw [c2, hPB] at this
    exact absurd this (by simp)
theorem EnC.pk (h : EnC B R g vb vp y r E e S w W) (hvp : vp = .slice (some ⟨PB, 0, none⟩) g.qs.length cp) (hq : g.qs[i]? = some q) (ho : OnlyB 116 PB (i * 20) 20 W w2) (hc : ∀ (j : Nat) (u : Value), (pkC q')[j]? = some u → w2.cell? ⟨PB, i * 20 + j, none⟩ = some u)
    (hm : SRow q'.vm q'.life.ms w2 ∧ SRow q'.vo q'.life.os w2 ∧ (q'.life.n = 0 → q'.vm = .slice none 0 0 ∧ q'.life.ms = [])) (he : q'.ve = q.ve ∧ q'.es = q.es) (hS : S PB) : EnC B R { g with qs := g.qs.set i q' } vb vp y r E e S w w2 := by
  obtain ⟨cs, cs', c1, -⟩ := ho.cells
  refine ⟨h.ra.setPk hvp hq ho hc hm he, (ho.block r (blk_lt h.yb) (fun c => ?_)).trans h.yb, (ho.block E (blk_lt h.eb) (fun c => ?_)).trans h.eb, h.kp.only ho hS⟩
  · have := h.yb
    rw [c, c1] at this
    exact absurd this (by simp)
  · have := h.eb
    rw [c, c1] at this
    exact absurd this (by simp)
end
end Go.Proofs.YtmpilgkfbibhlaaGreatDoor
namespace Go.Proofs.YtmpilgkfbibhlaaGreatDoor
open Sx Go.RowKit Mr
section
variable {T : TypeId} {B R r E i PB cp off n m : Nat} {g : RegS} {vb vp vm' vo' : Value} {y : Ent} {e : Evt} {S : Nat → Prop} {w W w2 : World} {q : PkV} {x' : LifeS}
theorem OnlyB.wide (h : OnlyB T B off n w W) (hn : n ≤ m) : OnlyB T B off m w W := by
 obtain ⟨cs, cs', h1, h2, h3, h4⟩ := h.cells
 exact ⟨h.os, h.tape, h.output, h.size, h.lt, h.block, cs, cs', h1, h2, h3, fun j hj => h4 j (by omega)⟩
theorem EnC.hd (h : EnC B R g vb vp y r E e S w W) (hvp : vp = .slice (some ⟨PB, 0, none⟩) g.qs.length cp) (hq : g.qs[i]? = some q) (hS : S PB) (n : Nat) :
  EnC B R { g with qs := g.qs.set i { q with hd := n } } vb vp y r E e S w (W.setCell ⟨PB, i * 20 + 18, none⟩ (.int .u64 (n : Int))) := by
 obtain ⟨PB2, cp2, cur, ea, -, hPB, hcl⟩ := h.ra.packs (by rintro e; rw [e] at hq; cases hq)
 rw [hvp] at ea
 cases ea
 have ho := (OnlyB.start (off := i * 20) (n := 20) hPB).set (j := 18) (by omega) (.int .u64 (n : Int))
 obtain ⟨m1, m2, m3⟩ := h.ra.ms q (List.mem_of_getElem? hq)
 have hT : 116 ≠ 9 := by decide
 refine h.pk (q' := { q with hd := n }) hvp hq ho (fun j u hj => ?_) ⟨m1.only ho hT, m2.only ho hT, m3⟩ ⟨rfl, rfl⟩ hS
 refine blk_cell (blk_set hPB) ?_
 rw [Array.getElem?_setIfInBounds]
 have hj20 : j < 20 := (List.getElem?_eq_some_iff.1 hj).1
 by_cases hj8 : j = 18
 ·subst hj8
  have hz := (Array.getElem?_eq_some_iff.1 (hcl i q hq 18 _ rfl)).1
  rw [if_pos rfl, if_pos hz]
  exact hj
 ·rw [if_neg (by omega)]
  refine hcl i q hq j u ?_
  unfold pkC at hj ⊢
  by_cases h18 : j < 18
  ·rw [List.getElem?_append_left (by exact h18)] at hj ⊢
   exact hj
  ·obtain rfl : j = 19 := by omega
   exact hj
theorem EnC.life (h : EnC B R g vb vp y r E e S w W) (hvp : vp = .slice (some ⟨PB, 0, none⟩) g.qs.length cp) (hq : g.qs[i]? = some q) (hS : S PB) (hl : LifeAt 116 PB (i * 20) q.nm x' vm' vo' w2) (ho : OnlyB 116 PB (i * 20) 18 W w2) (hn : x'.n ≠ 0) :
  EnC B R { g with qs := g.qs.set i { q with life := x', vm := vm', vo := vo' } } vb vp y r E e S w w2 := by
 obtain ⟨PB2, cp2, cur, ea, -, hPB, hcl⟩ := h.ra.packs (by rintro e; rw [e] at hq; cases hq)
 rw [hvp] at ea
 cases ea
 obtain ⟨⟨cs2, e2, e3⟩, m1, m2⟩ := hl
 refine h.pk (q' := { q with life := x', vm := vm', vo := vo' }) hvp hq (ho.wide (by omega)) (fun j u hj => ?_) ⟨m1, m2, fun h0 => absurd h0 hn⟩ ⟨rfl, rfl⟩ hS
 refine blk_cell e2 ?_
 have hj20 : j < 20 := (List.getElem?_eq_some_iff.1 hj).1
 unfold pkC at hj
 by_cases h18 : j < 18
 ·rw [List.getElem?_append_left (by exact h18)] at hj
  exact e3 j u hj
 ·obtain ⟨cs, cs', c1, c2, c3, c4⟩ := ho.cells
  rw [hPB] at c1
  simp at c1
  obtain rfl := c1
  rw [e2] at c2
  simp at c2
  obtain rfl := c2
  rw [c4 _ (Or.inr (by omega))]
  refine hcl i q hq j u ?_
  unfold pkC
  rw [List.getElem?_append_right (by show 18 ≤ j; omega)] at hj ⊢
  exact hj
end
end Go.Proofs.YtmpilgkfbibhlaaGreatDoor
