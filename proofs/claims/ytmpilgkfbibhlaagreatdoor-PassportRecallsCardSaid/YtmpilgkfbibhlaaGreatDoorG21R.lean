/-
 Equality of entries; an entry that is loaded in a drawn region.
-/
import Derived.Test.YtmpilgkfbibhlaaGreatDoorG0R
import Derived.Laws.StructEq
import Derived.KernelRfl
import Derived.Deep.QuietTactic
import Derived.Test.YtmpilgkfbibhlaaGreatDoorG20R
import Derived.Deep.MidRow
import Derived.Deep.Quiet
import Derived.Test.YtmpilgkfbibhlaaGreatDoorG15R
set_option linter.unusedSimpArgs false
set_option linter.unusedVariables false
namespace Go.Proofs.YtmpilgkfbibhlaaGreatDoor
open Sx Go.RowKit Mr
theorem bSetCellsE {N b : Nat} {w : World} : ∀ (vs : List Value) (o : Nat) {W : World}, Below N w W → N ≤ b → Below N w (W.setCells b o vs)
 | [], _, _, h, _ => h
 | v :: vs, o, _, h, hb => bSetCellsE vs (o + 1) (h.setCell (p := ⟨b, o, none⟩) hb v) hb
set_option maxHeartbeats 1000000 in
theorem entBox (W : World) (y : Ent) : ((W.alloc (.cells zeroE 31)).setCells W.heap.size 0 (entC y)).heap[W.heap.size]? = some (.cells (entC y).toArray 31 (0, 0)) ∧
  Below W.heap.size W ((W.alloc (.cells zeroE 31)).setCells W.heap.size 0 (entC y)) := by
 refine ⟨?_, ?_⟩
 ·obtain ⟨⟨k, t, a, b, nm, ot⟩, by_, pad, head, tag⟩ := y
  have hz : (W.alloc (.cells zeroE 31)).heap[W.heap.size]? = some (.cells zeroE 31 (0, 0)) := blk_new W (.cells zeroE 31)
  unfold zeroE at hz ⊢
  have z0 : ((W.alloc (.cells #[.int .i64 0, .int .i64 0, .int .i64 0, .int .i64 0, .string ⟨#[]⟩, .string ⟨#[]⟩, .int .i64 0, .int .i64 0, .int .u64 0, .int .u64 0] 31)).setCell ⟨W.heap.size, 0, none⟩ (.int .i64 k)).heap[W.heap.size]? = some (.cells #[(.int .i64 k), (.int .i64 0), (.int .i64 0), (.int .i64 0), (.string ⟨#[]⟩), (.string ⟨#[]⟩), (.int .i64 0), (.int .i64 0), (.int .u64 0), (.int .u64 0)] 31 (0, 0)) := blk_set hz
  have z1 : (((W.alloc (.cells #[.int .i64 0, .int .i64 0, .int .i64 0, .int .i64 0, .string ⟨#[]⟩, .string ⟨#[]⟩, .int .i64 0, .int .i64 0, .int .u64 0, .int .u64 0] 31)).setCell ⟨W.heap.size, 0, none⟩ (.int .i64 k)).setCell ⟨W.heap.size, 1, none⟩ (.int .i64 t)).heap[W.heap.size]? = some (.cells #[(.int .i64 k), (.int .i64 t), (.int .i64 0), (.int .i64 0), (.string ⟨#[]⟩), (.string ⟨#[]⟩), (.int .i64 0), (.int .i64 0), (.int .u64 0), (.int .u64 0)] 31 (0, 0)) := blk_set z0
  have z2 : ((((W.alloc (.cells #[.int .i64 0, .int .i64 0, .int .i64 0, .int .i64 0, .string ⟨#[]⟩, .string ⟨#[]⟩, .int .i64 0, .int .i64 0, .int .u64 0, .int .u64 0] 31)).setCell ⟨W.heap.size, 0, none⟩ (.int .i64 k)).setCell ⟨W.heap.size, 1, none⟩ (.int .i64 t)).setCell ⟨W.heap.size, 2, none⟩ (.int .i64 a)).heap[W.heap.size]? = some (.cells #[(.int .i64 k), (.int .i64 t), (.int .i64 a), (.int .i64 0), (.string ⟨#[]⟩), (.string ⟨#[]⟩), (.int .i64 0), (.int .i64 0), (.int .u64 0), (.int .u64 0)] 31 (0, 0)) := blk_set z1
  have z3 : (((((W.alloc (.cells #[.int .i64 0, .int .i64 0, .int .i64 0, .int .i64 0, .string ⟨#[]⟩, .string ⟨#[]⟩, .int .i64 0, .int .i64 0, .int .u64 0, .int .u64 0] 31)).setCell ⟨W.heap.size, 0, none⟩ (.int .i64 k)).setCell ⟨W.heap.size, 1, none⟩ (.int .i64 t)).setCell ⟨W.heap.size, 2, none⟩ (.int .i64 a)).setCell ⟨W.heap.size, 3, none⟩ (.int .i64 b)).heap[W.heap.size]? = some (.cells #[(.int .i64 k), (.int .i64 t), (.int .i64 a), (.int .i64 b), (.string ⟨#[]⟩), (.string ⟨#[]⟩), (.int .i64 0), (.int .i64 0), (.int .u64 0), (.int .u64 0)] 31 (0, 0)) := blk_set z2
  have z4 : ((((((W.alloc (.cells #[.int .i64 0, .int .i64 0, .int .i64 0, .int .i64 0, .string ⟨#[]⟩, .string ⟨#[]⟩, .int .i64 0, .int .i64 0, .int .u64 0, .int .u64 0] 31)).setCell ⟨W.heap.size, 0, none⟩ (.int .i64 k)).setCell ⟨W.heap.size, 1, none⟩ (.int .i64 t)).setCell ⟨W.heap.size, 2, none⟩ (.int .i64 a)).setCell ⟨W.heap.size, 3, none⟩ (.int .i64 b)).setCell ⟨W.heap.size, 4, none⟩ (.string nm)).heap[W.heap.size]? = some (.cells #[(.int .i64 k), (.int .i64 t), (.int .i64 a), (.int .i64 b), (.string nm), (.string ⟨#[]⟩), (.int .i64 0), (.int .i64 0), (.int .u64 0), (.int .u64 0)] 31 (0, 0)) := blk_set z3
  have z5 : (((((((W.alloc (.cells #[.int .i64 0, .int .i64 0, .int .i64 0, .int .i64 0, .string ⟨#[]⟩, .string ⟨#[]⟩, .int .i64 0, .int .i64 0, .int .u64 0, .int .u64 0] 31)).setCell ⟨W.heap.size, 0, none⟩ (.int .i64 k)).setCell ⟨W.heap.size, 1, none⟩ (.int .i64 t)).setCell ⟨W.heap.size, 2, none⟩ (.int .i64 a)).setCell ⟨W.heap.size, 3, none⟩ (.int .i64 b)).setCell ⟨W.heap.size, 4, none⟩ (.string nm)).setCell ⟨W.heap.size, 5, none⟩ (.string ot)).heap[W.heap.size]? = some (.cells #[(.int .i64 k), (.int .i64 t), (.int .i64 a), (.int .i64 b), (.string nm), (.string ot), (.int .i64 0), (.int .i64 0), (.int .u64 0), (.int .u64 0)] 31 (0, 0)) := blk_set z4
  have z6 : ((((((((W.alloc (.cells #[.int .i64 0, .int .i64 0, .int .i64 0, .int .i64 0, .string ⟨#[]⟩, .string ⟨#[]⟩, .int .i64 0, .int .i64 0, .int .u64 0, .int .u64 0] 31)).setCell ⟨W.heap.size, 0, none⟩ (.int .i64 k)).setCell ⟨W.heap.size, 1, none⟩ (.int .i64 t)).setCell ⟨W.heap.size, 2, none⟩ (.int .i64 a)).setCell ⟨W.heap.size, 3, none⟩ (.int .i64 b)).setCell ⟨W.heap.size, 4, none⟩ (.string nm)).setCell ⟨W.heap.size, 5, none⟩ (.string ot)).setCell ⟨W.heap.size, 6, none⟩ (.int .i64 by_)).heap[W.heap.size]? = some (.cells #[(.int .i64 k), (.int .i64 t), (.int .i64 a), (.int .i64 b), (.string nm), (.string ot), (.int .i64 by_), (.int .i64 0), (.int .u64 0), (.int .u64 0)] 31 (0, 0)) := blk_set z5
  have z7 : (((((((((W.alloc (.cells #[.int .i64 0, .int .i64 0, .int .i64 0, .int .i64 0, .string ⟨#[]⟩, .string ⟨#[]⟩, .int .i64 0, .int .i64 0, .int .u64 0, .int .u64 0] 31)).setCell ⟨W.heap.size, 0, none⟩ (.int .i64 k)).setCell ⟨W.heap.size, 1, none⟩ (.int .i64 t)).setCell ⟨W.heap.size, 2, none⟩ (.int .i64 a)).setCell ⟨W.heap.size, 3, none⟩ (.int .i64 b)).setCell ⟨W.heap.size, 4, none⟩ (.string nm)).setCell ⟨W.heap.size, 5, none⟩ (.string ot)).setCell ⟨W.heap.size, 6, none⟩ (.int .i64 by_)).setCell ⟨W.heap.size, 7, none⟩ (.int .i64 pad)).heap[W.heap.size]? = some (.cells #[(.int .i64 k), (.int .i64 t), (.int .i64 a), (.int .i64 b), (.string nm), (.string ot), (.int .i64 by_), (.int .i64 pad), (.int .u64 0), (.int .u64 0)] 31 (0, 0)) := blk_set z6
  have z8 : ((((((((((W.alloc (.cells #[.int .i64 0, .int .i64 0, .int .i64 0, .int .i64 0, .string ⟨#[]⟩, .string ⟨#[]⟩, .int .i64 0, .int .i64 0, .int .u64 0, .int .u64 0] 31)).setCell ⟨W.heap.size, 0, none⟩ (.int .i64 k)).setCell ⟨W.heap.size, 1, none⟩ (.int .i64 t)).setCell ⟨W.heap.size, 2, none⟩ (.int .i64 a)).setCell ⟨W.heap.size, 3, none⟩ (.int .i64 b)).setCell ⟨W.heap.size, 4, none⟩ (.string nm)).setCell ⟨W.heap.size, 5, none⟩ (.string ot)).setCell ⟨W.heap.size, 6, none⟩ (.int .i64 by_)).setCell ⟨W.heap.size, 7, none⟩ (.int .i64 pad)).setCell ⟨W.heap.size, 8, none⟩ (.int .u64 (head : Int))).heap[W.heap.size]? = some (.cells #[(.int .i64 k), (.int .i64 t), (.int .i64 a), (.int .i64 b), (.string nm), (.string ot), (.int .i64 by_), (.int .i64 pad), (.int .u64 (head : Int)), (.int .u64 0)] 31 (0, 0)) := blk_set z7
  have z9 : (((((((((((W.alloc (.cells #[.int .i64 0, .int .i64 0, .int .i64 0, .int .i64 0, .string ⟨#[]⟩, .string ⟨#[]⟩, .int .i64 0, .int .i64 0, .int .u64 0, .int .u64 0] 31)).setCell ⟨W.heap.size, 0, none⟩ (.int .i64 k)).setCell ⟨W.heap.size, 1, none⟩ (.int .i64 t)).setCell ⟨W.heap.size, 2, none⟩ (.int .i64 a)).setCell ⟨W.heap.size, 3, none⟩ (.int .i64 b)).setCell ⟨W.heap.size, 4, none⟩ (.string nm)).setCell ⟨W.heap.size, 5, none⟩ (.string ot)).setCell ⟨W.heap.size, 6, none⟩ (.int .i64 by_)).setCell ⟨W.heap.size, 7, none⟩ (.int .i64 pad)).setCell ⟨W.heap.size, 8, none⟩ (.int .u64 (head : Int))).setCell ⟨W.heap.size, 9, none⟩ (.int .u64 (tag : Int))).heap[W.heap.size]? = some (.cells #[(.int .i64 k), (.int .i64 t), (.int .i64 a), (.int .i64 b), (.string nm), (.string ot), (.int .i64 by_), (.int .i64 pad), (.int .u64 (head : Int)), (.int .u64 (tag : Int))] 31 (0, 0)) := blk_set z8
  exact z9
 ·exact bSetCellsE _ _ bAl (Nat.le_refl _)
theorem entC_one (y : Ent) : (entC y).toArray.all (·.oneCell') = true := by
 obtain ⟨⟨k, t, a, b, nm, ot⟩, by_, pad, head, tag⟩ := y
 refine all_oneCell_toArray fun v hv => ?_
 simp only [entC, List.mem_cons, List.not_mem_nil, or_false] at hv
 rcases hv with rfl | rfl | rfl | rfl | rfl | rfl | rfl | rfl | rfl | rfl <;> rfl
end Go.Proofs.YtmpilgkfbibhlaaGreatDoor
namespace Go.Proofs.YtmpilgkfbibhlaaGreatDoor
open Go.RowKit Mr
theorem LifeAt.grown {T : TypeId} {B off : Nat} {name : ByteArray} {x : LifeS} {vm vo : Value} {W w2 : World} {g : Option Nat} (h : LifeAt T B off name x vm vo W) (hg : W.grownBy w2 g) (hB : some B ≠ g) (hs : ∀ k, g = some k → ∃ cs E fr, W.heap[k]? = some (.cells cs E fr) ∧ E ≠ 9) : LifeAt T B off name x vm vo w2 := by
 obtain ⟨⟨cs, h1, h2⟩, h3, h4⟩ := h
 have key : ∀ (b : Nat) (cs : Array Value) (fr : Nat × Nat), W.heap[b]? = some (Obj.cells cs 9 fr) → w2.heap[b]? = W.heap[b]? := fun b cs fr e => hg.block b (blk_lt e) (fun c => by
  obtain ⟨cs2, E, fr2, e1, e2⟩ := hs b c.symm
  rw [e] at e1
  simp at e1
  exact e2 e1.2.1.symm)
 exact ⟨⟨cs, (hg.block B (blk_lt h1) hB).trans h1, h2⟩, h3.keep key, h4.keep key⟩
theorem OnlyB.below {T : TypeId} {B off m N : Nat} {w W w2 : World} (hb : Below N w W) (ho : OnlyB T B off m W w2) (hB : N ≤ B) (hN : N ≤ W.heap.size) : Below N w w2 :=
 ⟨ho.os.trans hb.os, ho.tape.trans hb.tape, ho.output.trans hb.output, Nat.le_trans hb.size ho.size, fun k hk => (ho.block k (by omega) (by omega)).trans (hb.block k hk)⟩
section
variable {w0 W w2 : World} {X C N pt : Nat} {name : ByteArray} {pre : List Ent} {v : Value}
end
theorem grown_other {W w2 : World} {base E E2 sz n b : Nat} {v : Value} {xs : List Value} {cs : Array Value} {fr : Nat × Nat} (ho : W.ownsRow base E sz v n xs) (hg : W.grownBy w2 v.ownBlock) (h : W.heap[b]? = some (.cells cs E2 fr)) (hne : E2 ≠ E) : w2.heap[b]? = some (.cells cs E2 fr) :=
 (hg.block b (blk_lt h) (fun c => by
  obtain ⟨-, cs2, e⟩ := own_typed ho c.symm
  rw [h] at e
  simp at e
  exact hne e.2.1)).trans h
theorem new_cells2 {W : World} {cs : List Value} {t : TypeId} {n : Nat} : n * 2 ≠ 0 → ∃ p off, (some (⟨W.heap.size, 0, none⟩ : Addr)) = some ⟨p, off, none⟩ ∧ ∀ (j : Nat) (u : Value), cs[j]? = some u → (W.alloc (.cells cs.toArray t)).cell? ⟨p, off + j, none⟩ = some u := fun _ =>
 ⟨_, 0, rfl, fun j u hu => blk_cell (blk_new W _) (by rw [Nat.zero_add]; simpa using hu)⟩
theorem life_box (w : World) (name : ByteArray) : LifeAt 93 w.heap.size 0 name life0 (.slice none 0 0) (.slice none 0 0)
  (w.alloc (.cells #[.string name, .int .i64 0, .int .i64 0, .int .i64 0, .int .i64 0, .int .i64 0, .int .i64 0, .string ⟨#[]⟩, .string ⟨#[]⟩, .slice none 0 0, .slice none 0 0, .int .i64 0, .int .i64 0, .bool false, .int .i64 0, .int .i64 0, .int .i64 0, .bool false] 93)) := by
 refine ⟨⟨_, blk_new w _, fun j u hj => ?_⟩, SRow.nil _, SRow.nil _⟩
 rw [Nat.zero_add]
 have : lifeCs name life0 (.slice none 0 0) (.slice none 0 0) = (#[.string name, .int .i64 0, .int .i64 0, .int .i64 0, .int .i64 0, .int .i64 0, .int .i64 0, .string ⟨#[]⟩, .string ⟨#[]⟩, .slice none 0 0, .slice none 0 0, .int .i64 0, .int .i64 0, .bool false, .int .i64 0, .int .i64 0, .int .i64 0, .bool false] : Array Value).toList := rfl
 rw [this] at hj
 simpa using hj
end Go.Proofs.YtmpilgkfbibhlaaGreatDoor
namespace Go.Proofs.YtmpilgkfbibhlaaGreatDoor
open Go.RowKit Mr
structure PkV where
 nm : ByteArray
 life : LifeS
 hd : Nat
 es : List Ent
 vm : Value
 vo : Value
 ve : Value
def pkC (q : PkV) : List Value := lifeCs q.nm q.life q.vm q.vo ++ [.int .u64 (q.hd : Int), q.ve]
theorem pkC_len (q : PkV) : (pkC q).length = 20 := rfl
def flatK (qs : List PkV) : List Value := qs.flatMap pkC
theorem flatK_len (qs : List PkV) : (flatK qs).length = qs.length * 20 := by
 induction qs with
 | nil => rfl
 | cons e h ih => unfold flatK at *; rw [List.flatMap_cons, List.length_append, ih, pkC_len, List.length_cons]; omega
theorem flatK_snoc (qs : List PkV) (q : PkV) : flatK (qs ++ [q]) = flatK qs ++ pkC q := by unfold flatK; simp
theorem flatK_get {qs : List PkV} {i : Nat} {q : PkV} (hq : qs[i]? = some q) (j : Nat) (hj : j < 20) : (flatK qs)[i * 20 + j]? = (pkC q)[j]? := by
 induction qs generalizing i with
 | nil => cases hq
 | cons e0 h ih =>
  unfold flatK
  rw [List.flatMap_cons]
  cases i with
  | zero =>
   have : e0 = q := by simpa using hq
   subst this
   rw [Nat.zero_mul, Nat.zero_add, List.getElem?_append_left (by rw [pkC_len]; exact hj)]
  | succ k =>
   rw [List.getElem?_append_right (by rw [pkC_len]; omega), pkC_len]
   have := ih (i := k) (by simpa using hq)
   unfold flatK at this
   rw [show (k + 1) * 20 + j - 20 = k * 20 + j by omega]
   exact this
def flatY (es : List Ent) : List Value := es.flatMap entC
theorem entC_len (y : Ent) : (entC y).length = 10 := by obtain ⟨⟨k, t, a, b, nm, ot⟩, by_, pad, head, tag⟩ := y; rfl
theorem flatY_len (es : List Ent) : (flatY es).length = es.length * 10 := by
 induction es with
 | nil => rfl
 | cons e h ih => unfold flatY at *; rw [List.flatMap_cons, List.length_append, ih, entC_len, List.length_cons]; omega
theorem flatY_snoc (es : List Ent) (y : Ent) : flatY (es ++ [y]) = flatY es ++ entC y := by unfold flatY; simp
theorem flatY_at {es : List Ent} {k j : Nat} {y : Ent} {u : Value} (hk : es[k]? = some y) (hj : (entC y)[j]? = some u) : (flatY es)[k * 10 + j]? = some u := by
 induction es generalizing k with
 | nil => cases hk
 | cons e0 h ih =>
  unfold flatY
  rw [List.flatMap_cons]
  have hj10 : j < 10 := by have := (List.getElem?_eq_some_iff.1 hj).1; rwa [entC_len] at this
  cases k with
  | zero =>
   have : e0 = y := by simpa using hk
   subst this
   rw [Nat.zero_mul, Nat.zero_add, List.getElem?_append_left (by rw [entC_len]; exact hj10)]
   exact hj
  | succ k =>
   rw [List.getElem?_append_right (by rw [entC_len]; omega), entC_len]
   have := ih (k := k) (by simpa using hk)
   unfold flatY at this
   rw [show (k + 1) * 10 + j - 10 = k * 10 + j by omega]
   exact this
def PadT (v : Value) (ns : List Nat) (W : World) : Prop := ∃ a c, v = .slice a ns.length c ∧ (ns ≠ [] → ∃ b off cs fr, a = some ⟨b, off, none⟩ ∧ W.heap[b]? = some (.cells cs 22 fr) ∧ ∀ (k n : Nat), ns[k]? = some n → cs[off + k]? = some (.int .u64 (n : Int)))
def BksT (a : Option Addr) (bks : List Bk) (W : World) : Prop := bks ≠ [] → ∃ b off cs fr, a = some ⟨b, off, none⟩ ∧ W.heap[b]? = some (.cells cs 85 fr) ∧ ∀ (k : Nat) (bk : Bk), bks[k]? = some bk → cs[off + k * 2]? = some (.int .u64 (bk.1 : Int)) ∧ ∃ vp, cs[off + k * 2 + 1]? = some vp ∧ PadT vp bk.2 W
theorem PadT.padV {v : Value} {ns : List Nat} {W : World} (h : PadT v ns W) : PadV v ns W := by
 obtain ⟨a, c, h1, h2⟩ := h
 refine ⟨a, c, h1, fun hn => ?_⟩
 obtain ⟨b, off, cs, fr, e1, e2, e3⟩ := h2 hn
 exact ⟨b, off, e1, blk_lt e2, fun k n hk => blk_cell e2 (e3 k n hk)⟩
theorem BksT.at_ {a : Option Addr} {bks : List Bk} {W : World} (h : BksT a bks W) : BksAt a bks W := fun hn => by
 obtain ⟨b, off, cs, fr, e1, e2, e3⟩ := h hn
 refine ⟨b, off, e1, blk_lt e2, fun k bk hk => ?_⟩
 obtain ⟨q1, vp, q2, q3⟩ := e3 k bk hk
 exact ⟨blk_cell e2 q1, vp, blk_cell e2 q2, q3.padV⟩
def KeepT (W w2 : World) : Prop := ∀ (b : Nat) (cs : Array Value) (T : TypeId) (fr : Nat × Nat), W.heap[b]? = some (.cells cs T fr) → T ≠ 121 → T ≠ 116 → T ≠ 31 → w2.heap[b]? = some (.cells cs T fr)
theorem KeepT.of_below {W w2 : World} (h : Below W.heap.size W w2) : KeepT W w2 := fun b cs T fr e _ _ _ => blk_step e h
theorem KeepT.srow {v : Value} {l : List ByteArray} {W w2 : World} (hk : KeepT W w2) (h : SRow v l W) : SRow v l w2 := h.keep fun b cs fr e => (hk b cs _ fr e (by decide) (by decide) (by decide)).trans e.symm
theorem KeepT.pads {v : Value} {ns : List Nat} {W w2 : World} (hk : KeepT W w2) (h : PadT v ns W) : PadT v ns w2 := by
 obtain ⟨a, c, h1, h2⟩ := h
 refine ⟨a, c, h1, fun hn => ?_⟩
 obtain ⟨b, off, cs, fr, e1, e2, e3⟩ := h2 hn
 exact ⟨b, off, cs, fr, e1, hk b cs _ fr e2 (by decide) (by decide) (by decide), e3⟩
theorem KeepT.books {a : Option Addr} {bks : List Bk} {W w2 : World} (hk : KeepT W w2) (h : BksT a bks W) : BksT a bks w2 := fun hn => by
 obtain ⟨b, off, cs, fr, e1, e2, e3⟩ := h hn
 refine ⟨b, off, cs, fr, e1, hk b cs _ fr e2 (by decide) (by decide) (by decide), fun k bk hk2 => ?_⟩
 obtain ⟨q1, vp, q2, q3⟩ := e3 k bk hk2
 exact ⟨q1, vp, q2, hk.pads q3⟩
structure RegS where
 pt : Nat
 bks : List Bk
 used : List Nat
 qs : List PkV
def regC (g : RegS) (vb vp : Value) : List Value := [.int .u64 (g.pt : Int), vb] ++ g.used.map (fun n : Nat => Value.int .i64 (n : Int)) ++ [vp]
structure RegAt (B R : Nat) (g : RegS) (vb vp : Value) (W : World) : Prop where
 reg : W.heap[R]? = some (.cells (regC g vb vp).toArray 121 (0, 0))
 u8 : g.used.length = 8
 bk : ∃ ab cb, vb = .slice ab g.bks.length cb ∧ BksT ab g.bks W
 row : W.ownsRow B 116 20 vp g.qs.length (flatK g.qs)
 ms : ∀ q ∈ g.qs, SRow q.vm q.life.ms W ∧ SRow q.vo q.life.os W ∧ (q.life.n = 0 → q.vm = .slice none 0 0 ∧ q.life.ms = [])
 es : ∀ q ∈ g.qs, W.ownsRow B 31 10 q.ve q.es.length (flatY q.es)
 far : ∀ (i j : Nat) (p q : PkV), i ≠ j → g.qs[i]? = some p → g.qs[j]? = some q → Far p.ve q.ve
 hB : B ≤ R
section
variable {B R : Nat} {g : RegS} {vb vp : Value} {W w2 : World}
theorem RegAt.step (h : RegAt B R g vb vp W) (hb : Below W.heap.size W w2) : RegAt B R g vb vp w2 := by
 obtain ⟨h1, h2, ⟨ab, cb, h3, h4⟩, h5, h6, h7, h8, h9⟩ := h
 exact ⟨blk_step h1 hb, h2, ⟨ab, cb, h3, (KeepT.of_below hb).books h4⟩, own_step h5 hb, fun q hq => ⟨(h6 q hq).1.step hb, (h6 q hq).2.1.step hb, (h6 q hq).2.2⟩, fun q hq => own_step (h7 q hq) hb, h8, h9⟩
theorem RegAt.packs (h : RegAt B R g vb vp W) (hn : g.qs ≠ []) : ∃ PB cp cur, vp = .slice (some ⟨PB, 0, none⟩) g.qs.length cp ∧ B ≤ PB ∧ W.heap[PB]? = some (.cells cur 116 (0, 0)) ∧ ∀ (i : Nat) (q : PkV), g.qs[i]? = some q → ∀ (j : Nat) (u : Value), (pkC q)[j]? = some u → cur[i * 20 + j]? = some u := by
 obtain ⟨-, h2⟩ := h.row
 rcases h2 with ⟨-, h3⟩ | ⟨PB, cp, cur, q1, q2, q3, q4, q5, q6, q7⟩
 ·exact absurd (List.length_eq_zero_iff.1 h3) hn
 ·refine ⟨PB, cp, cur, q1, q2, q3, fun i q hq j u hj => ?_⟩
  have hj20 : j < 20 := by have := (List.getElem?_eq_some_iff.1 hj).1; rwa [pkC_len] at this
  have hi := (List.getElem?_eq_some_iff.1 hq).1
  have h9 := flatK_get hq j hj20
  rw [hj, ← q7, List.getElem?_take_of_lt (by omega)] at h9
  simpa using h9
theorem RegAt.life (h : RegAt B R g vb vp W) {PB cp i : Nat} {q : PkV} (hvp : vp = .slice (some ⟨PB, 0, none⟩) g.qs.length cp) (hq : g.qs[i]? = some q) : LifeAt 116 PB (i * 20) q.nm q.life q.vm q.vo W ∧ W.cell? ⟨PB, i * 20 + 18, none⟩ = some (.int .u64 (q.hd : Int)) ∧ W.cell? ⟨PB, i * 20 + 19, none⟩ = some q.ve := by
 obtain ⟨PB2, cp2, cur, e1, -, e2, e3⟩ := h.packs (by rintro e; rw [e] at hq; cases hq)
 rw [hvp] at e1
 cases e1
 obtain ⟨m1, m2, -⟩ := h.ms q (List.mem_of_getElem? hq)
 refine ⟨⟨⟨cur, e2, fun j u hj => e3 i q hq j u ?_⟩, m1, m2⟩, blk_cell e2 (e3 i q hq 18 _ rfl), blk_cell e2 (e3 i q hq 19 _ rfl)⟩
 have h18 : j < 18 := (List.getElem?_eq_some_iff.1 hj).1
 unfold pkC
 rw [List.getElem?_append_left (by exact h18)]
 exact hj
theorem row_set {n i PB : Nat} {q' : PkV} {qs : List PkV} (h : W.ownsRow B 116 20 vp n (flatK qs)) (hn : n = qs.length) (hvp : vp.ownBlock = some PB) (hi : i < qs.length) (ho : OnlyB 116 PB (i * 20) 20 W w2) (hc : ∀ (j : Nat) (u : Value), (pkC q')[j]? = some u → w2.cell? ⟨PB, i * 20 + j, none⟩ = some u) :
  w2.ownsRow B 116 20 vp n (flatK (qs.set i q')) := by
 subst hn
 obtain ⟨h1, h2⟩ := h
 refine ⟨by rw [flatK_len, List.length_set], ?_⟩
 rcases h2 with ⟨e1, e2⟩ | ⟨g, cap, cur, q1, q2, q3, q4, q5, q6, q7⟩
 ·omega
 ·right
  obtain rfl : g = PB := by rw [q1] at hvp; simpa [Value.ownBlock] using hvp
  obtain ⟨cs, cs', c1, c2, c3, c4⟩ := ho.cells
  rw [q3] at c1
  simp at c1
  obtain rfl := c1
  refine ⟨g, cap, cs', q1, q2, c2, q4, q5, by rw [c3]; exact q6, ?_⟩
  refine List.ext_getElem? fun m => ?_
  by_cases hm : m < qs.length * 20
  ·rw [List.getElem?_take_of_lt hm]
   have ea : m = (m / 20) * 20 + m % 20 := by omega
   have hj : m % 20 < 20 := Nat.mod_lt _ (by decide)
   have ha : m / 20 < qs.length := by omega
   obtain ⟨q, hq⟩ : ∃ q, qs[m / 20]? = some q := ⟨qs[m / 20], List.getElem?_eq_getElem ha⟩
   by_cases hai : m / 20 = i
   ·have hs : (qs.set i q')[m / 20]? = some q' := by rw [hai, List.getElem?_set_self hi]
    have hg := flatK_get hs (m % 20) hj
    rw [← ea] at hg
    rw [hg]
    obtain ⟨u, hu⟩ : ∃ u, (pkC q')[m % 20]? = some u := ⟨(pkC q')[m % 20]'(by rw [pkC_len]; exact hj), List.getElem?_eq_getElem _⟩
    have hcc := hc (m % 20) u hu
    rw [hu, ← hcc]
    rw [← hai, ← ea]
    simp [World.cell?, c2]
   ·have hs : (qs.set i q')[m / 20]? = some q := by rw [List.getElem?_set_ne (fun e => hai e.symm)]; exact hq
    have hg := flatK_get hs (m % 20) hj
    have hg0 := flatK_get hq (m % 20) hj
    rw [← ea] at hg hg0
    rw [hg, ← hg0, ← q7, List.getElem?_take_of_lt hm, Array.getElem?_toList, Array.getElem?_toList]
    exact c4 m (by omega)
  ·rw [List.getElem?_eq_none (by rw [List.length_take]; omega), List.getElem?_eq_none (by rw [flatK_len, List.length_set]; omega)]
end
end Go.Proofs.YtmpilgkfbibhlaaGreatDoor
