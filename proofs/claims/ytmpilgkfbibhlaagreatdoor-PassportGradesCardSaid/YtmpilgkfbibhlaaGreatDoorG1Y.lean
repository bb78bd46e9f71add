/-
 Histories in plain Lean: what a history is about, as the program keeps it and as the reference reckons it.
-/
import Derived.RowKit
import Derived.Lib.Strings
import Derived.Lib.ItoaNum
import Derived.Test.YtmpilgkfbibhlaaGreatDoorG0Y
import Derived.Maps.AppendAt
import Derived.OneCell
import Derived.OwnWalk
import Derived.Shelf.SlicesE.DeleteFunc
set_option linter.unusedSimpArgs false
set_option linter.unusedVariables false
namespace Go.Proofs.YtmpilgkfbibhlaaGreatDoor
open Go
abbrev Evt := Int × Int × Int × Int × ByteArray × ByteArray
def eqT (a b : ByteArray) : Bool := a.toList == b.toList
theorem eqT_iff {a b : ByteArray} : eqT a b = true ↔ a = b := by
 unfold eqT
 rw [Lib.toList_data, Lib.toList_data]
 constructor
 ·intro h
  have h' : a.data.toList = b.data.toList := by simpa using h
  obtain ⟨⟨x⟩⟩ := a
  obtain ⟨⟨y⟩⟩ := b
  have h'' : x = y := h'
  rw [h'']
 ·rintro rfl; simp
def modN (nm : ByteArray) (i : Nat) : ByteArray := nm ++ ⟨#[58]⟩ ++ ⟨(Lib.itoa (i : Int)).toArray⟩
def dropT (l : List ByteArray) (s : ByteArray) : List ByteArray := l.filter fun t => !(eqT t s)
def hasT (l : List ByteArray) (s : ByteArray) : Bool := l.any fun t => eqT t s
def modStep (name : ByteArray) (l : List ByteArray) : Evt → List ByteArray
 | (k, _, _, b, nm, _) => if k = 1 then l ++ (List.range b.toNat).map (modN name) else if k = 5 then l ++ [nm] else if k = 6 then dropT l nm else l
def opnStep (l : List ByteArray) : Evt → List ByteArray
 | (k, _, _, _, nm, _) => if k = 7 then l ++ [nm] else if k = 8 then dropT l nm else l
def modsOf (name : ByteArray) (h : List Evt) : List ByteArray := h.foldl (modStep name) []
def opnsOf (h : List Evt) : List ByteArray := h.foldl opnStep []
def ruleB (name : ByteArray) (ms os : List ByteArray) : Evt → Bool
 | (k, _, _, _, nm, ot) => if k = 1 then false else if k = 5 then !(hasT ms nm) && decide (ms.length < 32) && !(eqT ot name) else if k = 6 then hasT ms nm && !(eqT ot name) else
   if k = 7 then !(hasT os nm) else if k = 8 then hasT os nm else if k = 9 then decide (ms.length = 0) else true
def canR (name : ByteArray) (h : List Evt) (e : Evt) : Bool := match h.getLast? with
 | none => decide (e.1 = 1)
 | some z => !(decide (e.1 = 1)) && !(decide (e.2.1 < z.2.1)) && !(decide (z.1 = 9)) && ruleB name (modsOf name h) (opnsOf h) e
theorem snocInd {α : Type} {p : List α → Prop} (h0 : p []) (h1 : ∀ l a, p l → p (l ++ [a])) : ∀ l, p l := by
 have key : ∀ l : List α, p l.reverse := by
  intro l
  induction l with
  | nil => exact h0
  | cons a l ih => rw [List.reverse_cons]; exact h1 _ _ ih
 intro l
 have := key l.reverse
 rwa [List.reverse_reverse] at this
structure LifeS where
 n : Nat
 at_ : Int
 made : Evt
 ms : List ByteArray
 os : List ByteArray
 thr : Int
 hot : Int
 tst : Bool
 tes : Int
 fau : Int
 mov : Int
 scr : Bool
def evt0 : Evt := (0, 0, 0, 0, ⟨#[]⟩, ⟨#[]⟩)
def life0 : LifeS := ⟨0, 0, evt0, [], [], 0, 0, false, 0, 0, 0, false⟩
def LifeS.add (name : ByteArray) (x : LifeS) (e : Evt) : LifeS :=
 {n := x.n + 1, at_ := e.2.1, made := if e.1 = 1 then e else x.made, ms := modStep name x.ms e, os := opnStep x.os e,
  thr := if e.1 = 2 then x.thr + e.2.2.1 else x.thr, hot := if e.1 = 2 then x.hot + e.2.2.2.1 else x.hot,
  tst := if e.1 = 3 then true else x.tst, tes := if e.1 = 3 then e.2.2.1 else x.tes, fau := if e.1 = 4 then x.fau + 1 else x.fau,
  mov := if e.1 = 5 then x.mov + 1 else if e.1 = 6 then x.mov + 1 else x.mov, scr := if e.1 = 9 then true else x.scr }
def lifeOf (name : ByteArray) (h : List Evt) : LifeS := h.foldl (LifeS.add name) life0
def canP (name : ByteArray) (x : LifeS) (e : Evt) : Bool :=
 if x.n = 0 then decide (e.1 = 1) else if e.2.1 < x.at_ then false else if x.scr = true then false else ruleB name x.ms x.os e
theorem lifeOf_snoc (name : ByteArray) (h : List Evt) (e : Evt) : lifeOf name (h ++ [e]) = (lifeOf name h).add name e := by
 unfold lifeOf; rw [List.foldl_append]; rfl
theorem life_n (name : ByteArray) : ∀ h, (lifeOf name h).n = h.length := by
 refine snocInd rfl fun h e ih => ?_
 rw [lifeOf_snoc, List.length_append]; show _ + 1 = _; rw [ih]; rfl
theorem life_ms (name : ByteArray) : ∀ h, (lifeOf name h).ms = modsOf name h := by
 refine snocInd rfl fun h e ih => ?_
 rw [lifeOf_snoc]; unfold modsOf; rw [List.foldl_append]; show modStep _ _ _ = _; rw [ih]; rfl
theorem life_os (name : ByteArray) : ∀ h, (lifeOf name h).os = opnsOf h := by
 refine snocInd rfl fun h e ih => ?_
 rw [lifeOf_snoc]; unfold opnsOf; rw [List.foldl_append]; show opnStep _ _ = _; rw [ih]; rfl
def LegH (name : ByteArray) (h : List Evt) : Prop := ∀ g e r, h = g ++ e :: r → canR name g e = true
theorem LegH.nil (name : ByteArray) : LegH name [] := fun g e r h => by simp at h
theorem LegH.snoc {name : ByteArray} {h : List Evt} {e : Evt} (hh : LegH name h) (he : canR name h e = true) : LegH name (h ++ [e]) := by
 intro g e2 r hg
 rcases List.eq_nil_or_concat r with rfl | ⟨r', z, rfl⟩
 ·have := List.append_inj' hg rfl
  obtain ⟨rfl, e3⟩ := this
  obtain rfl : e = e2 := by simpa using e3
  exact he
 ·have h2 : h ++ [e] = (g ++ e2 :: r') ++ [z] := by rw [hg]; simp
  have := List.append_inj' h2 rfl
  exact hh g e2 r' this.1
theorem LegH.init {name : ByteArray} {h : List Evt} {e : Evt} (hh : LegH name (h ++ [e])) : LegH name h := fun g e2 r hg => hh g e2 (r ++ [e]) (by rw [hg]; simp)
theorem LegH.last {name : ByteArray} {h : List Evt} {e : Evt} (hh : LegH name (h ++ [e])) : canR name h e = true := hh h e [] rfl
theorem life_last {name : ByteArray} : ∀ (h : List Evt) {z : Evt}, LegH name h → h.getLast? = some z → (lifeOf name h).at_ = z.2.1 ∧ (lifeOf name h).scr = decide (z.1 = 9) := by
 refine snocInd (fun _ hz => by cases hz) fun h e ih => ?_
 ·intro z hl hz
  obtain rfl : e = z := by simpa using hz
  rw [lifeOf_snoc]
  refine ⟨rfl, ?_⟩
  show (if e.1 = 9 then true else (lifeOf name h).scr) = _
  by_cases c : e.1 = 9
  ·rw [if_pos c, decide_eq_true c]
  ·rw [if_neg c, decide_eq_false c]
   have hc := hl.last
   unfold canR at hc
   cases hg : h.getLast? with
   | none =>
    obtain rfl : h = [] := by simpa using hg
    rfl
   | some y =>
    rw [hg] at hc
    simp only [Bool.and_eq_true, Bool.not_eq_true', decide_eq_false_iff_not] at hc
    rw [(ih hl.init hg).2, decide_eq_false hc.1.2]
theorem can_same {name : ByteArray} {h : List Evt} (hl : LegH name h) (e : Evt) : canP name (lifeOf name h) e = canR name h e := by
 unfold canP canR
 rw [life_n, life_ms, life_os]
 cases hg : h.getLast? with
 | none =>
  obtain rfl : h = [] := by simpa using hg
  rfl
 | some z =>
  have hn : h ≠ [] := by rintro rfl; cases hg
  have hlen : ¬ h.length = 0 := fun c => hn (List.length_eq_zero_iff.1 c)
  rw [if_neg hlen, (life_last h hl hg).1, (life_last h hl hg).2]
  dsimp only
  by_cases c1 : e.2.1 < z.2.1
  ·simp [c1]
  ·by_cases c2 : z.1 = 9
   ·simp [c2]
   ·by_cases c3 : e.1 = 1
    ·obtain ⟨k, t, a, b, nm, ot⟩ := e
     dsimp only at c3
     subst c3
     simp [ruleB]
    ·simp [c1, c2, c3]
end Go.Proofs.YtmpilgkfbibhlaaGreatDoor
namespace Go.Proofs.YtmpilgkfbibhlaaGreatDoor
open Go.RowKit
namespace Mr
theorem bAl {W : World} {o : Obj} : Below W.heap.size W (W.alloc o) := (Below.refl _ _).alloc (Nat.le_refl _) _
theorem own_base {W : World} {B B2 e s n : Nat} {v : Value} {xs : List Value} (h : W.ownsRow B e s v n xs) (hB : B2 ≤ B) : W.ownsRow B2 e s v n xs := by
 obtain ⟨h1, h2⟩ := h
 refine ⟨h1, ?_⟩
 rcases h2 with h2 | ⟨g, cap, cur, q1, q2, q3⟩
 ·exact Or.inl h2
 ·exact Or.inr ⟨g, cap, cur, q1, by omega, q3⟩
theorem own_step {W w2 : World} {B e s n : Nat} {v : Value} {xs : List Value} (h : W.ownsRow B e s v n xs) (hb : Below W.heap.size W w2) : w2.ownsRow B e s v n xs := by
 obtain ⟨h1, h2⟩ := h
 refine ⟨h1, ?_⟩
 rcases h2 with h2 | ⟨g, cap, cur, q1, q2, q3, q4⟩
 ·exact Or.inl h2
 ·exact Or.inr ⟨g, cap, cur, q1, q2, blk_step q3 hb, q4⟩
structure Rw where
 E : TypeId
 sz : Nat
 v : Value
 n : Nat
 xs : List Value
def Rw.Own (W : World) (B : Nat) (r : Rw) : Prop := W.ownsRow B r.E r.sz r.v r.n r.xs
theorem Rw.Own.step {W w2 : World} {B : Nat} {r : Rw} (h : r.Own W B) (hb : Below W.heap.size W w2) : r.Own w2 B := own_step h hb
theorem Rw.Own.lt {W : World} {B : Nat} {r : Rw} (h : r.Own W B) : ∀ k, r.v.ownBlock = some k → B ≤ k ∧ k < W.heap.size := World.ownsRow.lt h
theorem Rw.Own.get {W : World} {B : Nat} {r : Rw} (h : r.Own W B) : ∃ a c, r.v = .slice a r.n c ∧ (r.n * r.sz ≠ 0 → ∃ g, a = some ⟨g, 0, none⟩ ∧ g < W.heap.size ∧ ∀ j u, r.xs[j]? = some u → W.cell? ⟨g, j, none⟩ = some u) := by
 obtain ⟨h1, h2⟩ := h
 rcases h2 with ⟨h2, h3⟩ | ⟨g, cap, cur, q1, q2, q3, q4, q5, q6, q7⟩
 ·exact ⟨none, 0, by rw [h2, h3], fun h => absurd (by rw [h3, Nat.zero_mul]) h⟩
 ·refine ⟨_, cap, q1, fun _ => ⟨g, rfl, blk_lt q3, fun j u hj => ?_⟩⟩
  have hjl := (List.getElem?_eq_some_iff.1 hj).1
  rw [← q7, List.getElem?_take_of_lt (by omega)] at hj
  exact blk_cell q3 (by simpa using hj)
def Far (u v : Value) : Prop := ∀ k, u.ownBlock = some k → v.ownBlock = some k → False
theorem Far.symm {u v : Value} (h : Far u v) : Far v u := fun k h1 h2 => h k h2 h1
theorem Far.ne {u v : Value} (h : Far u v) : u.ownBlock = none ∨ u.ownBlock ≠ v.ownBlock := by
 cases hu : u.ownBlock with
 | none => exact Or.inl rfl
 | some k => exact Or.inr fun e => h k hu e.symm
section
variable {w W w2 w' : World} {B : Nat} {L L' : Nat → Option Obj} {f f' : Nat → Option Rw} {s : Nat} {r r' : Rw}
theorem own_fresh {cs : Array Value} {E sz n cap : Nat} (hl : cap ≤ maxLen) (hn : n ≤ cap) (hs : cs.size = cap * sz) : (⟨E, sz, .slice (some ⟨W.heap.size, 0, none⟩) n cap, n, cs.toList.take (n * sz)⟩ : Rw).Own (W.alloc (.cells cs E)) W.heap.size := by
 have hle : n * sz ≤ cs.size := by rw [hs]; exact Nat.mul_le_mul_right _ hn
 exact ⟨by simp [hle], Or.inr ⟨_, _, _, rfl, Nat.le_refl _, blk_new W _, hn, hl, hs, rfl⟩⟩
end
section
variable {P : Program}
theorem firstCells_zero {x : Value} (h : ∃ a n c, x = .slice a n c) (size : Nat) (w : World) : (Builtin.firstCells size 0 x).run P w = .ok #[] w := by
 obtain ⟨a, n, c, rfl⟩ := h
 cases a with
 | none => rfl
 | some a =>
  simp only [Builtin.firstCells, Nat.zero_mul]
  have := run_firstCells_some (P := P) w size 0 a n c [] (by simp) (fun j x hx => by simp at hx)
  simpa [Builtin.firstCells] using this
theorem run_app_zero (w : World) (t ty e : TypeId) (i : TypeInfo) (ht : P.underlying t = some (.slice e)) (hi : P.info? e = some i) (base : Option Addr) (n cap : Nat) (h : n ≤ cap) (a : Option Addr) (c : Nat) :
  (Builtin.append_ #[t, t] ty #[.slice base n cap, .slice a 0 c]).run P w = .ok (.slice base n cap) w := by
 have hfc := firstCells_zero (P := P) ⟨a, 0, c, rfl⟩ i.size w
 cases base with
 | none => simp [Builtin.append_, run_underlying ht, sizeOf, typeInfo, hi, Builtin.lenOf, h, hfc]
 | some b => simp [Builtin.append_, run_underlying ht, sizeOf, typeInfo, hi, Builtin.lenOf, h, hfc, storeCells]
theorem add_at (p off j : Nat) : (⟨p, off, none⟩ : Addr).add j = ⟨p, off + j, none⟩ := by
 unfold Addr.add
 split
 ·rename_i h; subst h; rfl
 ·rfl
theorem run_app (w : World) (base : Nat) (t ty e : TypeId) (i : TypeInfo) (z : Value) (size bytes : Nat) (ht : P.underlying t = some (.slice e)) (hi : P.info? e = some i) (hz : i.zero = some z)
  (hsize : i.size = size) (hby : i.bytes = bytes) (hzs : z.cells.size = size) (hsz : 0 < size)
  (v : Value) (n : Nat) (xs : List Value) (hown : w.ownsRow base e size v n xs)
  (a : Option Addr) (m c : Nat) (news : List Value) (hl : news.length = m * size) (hnews : m * size ≠ 0 → ∃ p off, a = some ⟨p, off, none⟩ ∧ ∀ j u, news[j]? = some u → w.cell? ⟨p, off + j, none⟩ = some u) (h1 : ∀ u ∈ news, u.oneCell' = true)
  (h63 : n + m ≤ maxLen) (hbytes : (n + m) * bytes ≤ 140737488355328) (hbase : base ≤ w.heap.size) :
  ∃ v' w', (Builtin.append_ #[t, t] ty #[v, .slice a m c]).run P w = .ok v' w' ∧ w'.ownsRow base e size v' (n + m) (xs ++ news) ∧ w.grownBy w' v.ownBlock ∧ (v'.ownBlock = v.ownBlock ∨ v'.ownBlock = some w.heap.size) := by
 by_cases hm : m = 0
 ·subst hm
  obtain rfl : news = [] := List.eq_nil_of_length_eq_zero (by simpa using hl)
  refine ⟨v, w, ?_, by simpa using hown, ⟨rfl, rfl, rfl, Nat.le_refl _, fun _ _ _ => rfl⟩, Or.inl rfl⟩
  rcases hown.2 with ⟨rfl, h5⟩ | ⟨g, cap, cur, rfl, -, -, h4, -⟩
  ·subst h5; exact run_app_zero w _ _ _ _ ht hi _ _ _ (Nat.le_refl _) _ _
  ·exact run_app_zero w _ _ _ _ ht hi _ _ _ h4 _ _
 ·obtain ⟨p, off, rfl, hc⟩ := hnews (Nat.mul_ne_zero hm (by omega))
  obtain ⟨v', w', q1, q2, q3, -, q5⟩ := run_append_own_at (P := P) w base t ty e i z size bytes ht hi hz hsize hby hzs hsz v n xs hown ⟨p, off, none⟩ m c news hl (fun j u hj => by rw [add_at]; exact hc j u hj) h1 h63 hbytes hbase
  exact ⟨v', w', q1, q2, q3, q5⟩
theorem wp_app (w : World) {o : Oper} {a : Act} {K : Act → World → Prop} {Q : Exit → Act → World → Prop} (s x : Operand) (t : TypeId) (ho : o.op = .call { callee := .builtin .append, args := #[s, x], argTypes := #[t, t] })
  (base : Nat) (e : TypeId) (i : TypeInfo) (z : Value) (size bytes : Nat) (ht : P.underlying t = some (.slice e)) (hi : P.info? e = some i) (hz : i.zero = some z)
  (hsize : i.size = size) (hby : i.bytes = bytes) (hzs : z.cells.size = size) (hsz : 0 < size)
  (v : Value) (n : Nat) (xs : List Value) (hs : a.eval s = v) (hown : w.ownsRow base e size v n xs)
  (ad : Option Addr) (m c : Nat) (news : List Value) (hx : a.eval x = .slice ad m c) (hl : news.length = m * size) (hnews : m * size ≠ 0 → ∃ p off, ad = some ⟨p, off, none⟩ ∧ ∀ j u, news[j]? = some u → w.cell? ⟨p, off + j, none⟩ = some u) (h1 : ∀ u ∈ news, u.oneCell' = true)
  (h63 : n + m ≤ maxLen) (hbytes : (n + m) * bytes ≤ 140737488355328) (hbase : base ≤ w.heap.size)
  (h : ∀ v' w', w'.ownsRow base e size v' (n + m) (xs ++ news) → w.grownBy w' v.ownBlock → (v'.ownBlock = v.ownBlock ∨ v'.ownBlock = some w.heap.size) → K (a.put o.dst v') w') : o.wp P a w K Q := by
 obtain ⟨v', w', hr, h2, h3, h5⟩ := run_app (P := P) w base t o.type e i z size bytes ht hi hz hsize hby hzs hsz v n xs hown ad m c news hl hnews h1 h63 hbytes hbase
 unfold Oper.wp execOp
 simp only [ho, resolve, invoke, builtin, Sem.run_bind, Sem.run_pure, Result.andThen_ok, List.map_toArray, List.map_cons, List.map_nil, hs, hx, hr]
 exact h v' w' h2 h3 h5
theorem wpList_app {ops : Array Oper} {rest : List Oper} (w : World) {o : Oper} {a : Act} {Q : Exit → Act → World → Prop} (hgd : o.guard = none) (s x : Operand) (t : TypeId) (ho : o.op = .call { callee := .builtin .append, args := #[s, x], argTypes := #[t, t] })
  (base : Nat) (e : TypeId) (i : TypeInfo) (z : Value) (size bytes : Nat) (ht : P.underlying t = some (.slice e)) (hi : P.info? e = some i) (hz : i.zero = some z)
  (hsize : i.size = size) (hby : i.bytes = bytes) (hzs : z.cells.size = size) (hsz : 0 < size)
  (v : Value) (n : Nat) (xs : List Value) (hs : a.eval s = v) (hown : w.ownsRow base e size v n xs)
  (ad : Option Addr) (m c : Nat) (news : List Value) (hx : a.eval x = .slice ad m c) (hl : news.length = m * size) (hnews : m * size ≠ 0 → ∃ p off, ad = some ⟨p, off, none⟩ ∧ ∀ j u, news[j]? = some u → w.cell? ⟨p, off + j, none⟩ = some u) (h1 : ∀ u ∈ news, u.oneCell' = true)
  (h63 : n + m ≤ maxLen) (hbytes : (n + m) * bytes ≤ 140737488355328) (hbase : base ≤ w.heap.size)
  (h : ∀ v' w', w'.ownsRow base e size v' (n + m) (xs ++ news) → w.grownBy w' v.ownBlock → (v'.ownBlock = v.ownBlock ∨ v'.ownBlock = some w.heap.size) → wpList P ops Q rest (a.put o.dst v') w') : wpList P ops Q (o :: rest) a w :=
 wpList_plain hgd fun _ hK => wp_app w s x t ho base e i z size bytes ht hi hz hsize hby hzs hsz v n xs hs hown ad m c news hx hl hnews h1 h63 hbytes hbase fun v' w' h2 h3 h5 => hK _ _ (h v' w' h2 h3 h5)
end
end Mr
end Go.Proofs.YtmpilgkfbibhlaaGreatDoor
namespace Go.Proofs.YtmpilgkfbibhlaaGreatDoor
open Go.RowKit Mr
def SRow (v : Value) (l : List ByteArray) (W : World) : Prop :=
 ∃ a c, v = .slice a l.length c ∧ (l ≠ [] → ∃ b off cs fr, a = some ⟨b, off, none⟩ ∧ W.heap[b]? = some (.cells cs 9 fr) ∧ ∀ (k : Nat) (t : ByteArray), l[k]? = some t → cs[off + k]? = some (.string t))
theorem SRow.keep {v : Value} {l : List ByteArray} {W w2 : World} (h : SRow v l W) (hk : ∀ (b : Nat) (cs : Array Value) (fr : Nat × Nat), W.heap[b]? = some (Obj.cells cs 9 fr) → w2.heap[b]? = W.heap[b]?) : SRow v l w2 := by
 obtain ⟨a, c, h1, h2⟩ := h
 refine ⟨a, c, h1, fun hn => ?_⟩
 obtain ⟨b, off, cs, fr, e1, e2, e3⟩ := h2 hn
 exact ⟨b, off, cs, fr, e1, (hk _ _ _ e2).trans e2, e3⟩
theorem SRow.step {v : Value} {l : List ByteArray} {W w2 : World} (h : SRow v l W) (hb : Below W.heap.size W w2) : SRow v l w2 := h.keep fun b _ _ e => hb.block b (blk_lt e)
theorem SRow.nil (W : World) : SRow (.slice none 0 0) [] W := ⟨none, 0, rfl, fun h => absurd rfl h⟩
theorem SRow.of_own {v : Value} {l : List ByteArray} {W : World} {B : Nat} (h : W.ownsRow B 9 1 v l.length (l.map Value.string)) : SRow v l W := by
 obtain ⟨h1, h2⟩ := h
 rcases h2 with ⟨h2, h3⟩ | ⟨g, cap, cur, q1, q2, q3, q4, q5, q6, q7⟩
 ·exact ⟨none, 0, by rw [h2, h3], fun hn => absurd (List.length_eq_zero_iff.1 h3) hn⟩
 ·refine ⟨_, cap, q1, fun _ => ⟨g, 0, cur, (0, 0), rfl, q3, fun k t hk => ?_⟩⟩
  have hj : (l.map Value.string)[k]? = some (.string t) := by rw [List.getElem?_map, hk]; rfl
  have hjl := (List.getElem?_eq_some_iff.1 hj).1
  rw [← q7, List.getElem?_take_of_lt (by simpa using hjl)] at hj
  simpa using hj
theorem SRow.cells {v : Value} {l : List ByteArray} {W : World} (h : SRow v l W) : ∃ a c, v = .slice a l.length c ∧ (l ≠ [] → ∃ b off, a = some ⟨b, off, none⟩ ∧ b < W.heap.size ∧ ∀ (j : Nat) (t : ByteArray), l[j]? = some t → W.cell? ⟨b, off + j, none⟩ = some (.string t)) := by
 obtain ⟨a, c, h1, h2⟩ := h
 refine ⟨a, c, h1, fun hn => ?_⟩
 obtain ⟨b, off, cs, fr, e1, e2, e3⟩ := h2 hn
 exact ⟨b, off, e1, blk_lt e2, fun j t hj => blk_cell e2 (e3 j t hj)⟩
theorem hasT_is (l : List ByteArray) (x : ByteArray) : Lib.containsS l x = hasT l x := by
 rw [Bool.eq_iff_iff, Lib.containsS_iff]
 unfold hasT
 rw [List.any_eq_true]
 constructor
 ·intro h; exact ⟨x, h, eqT_iff.2 rfl⟩
 ·rintro ⟨y, h1, h2⟩; rw [← eqT_iff.1 h2]; exact h1
theorem hasT_ne {l : List ByteArray} {x : ByteArray} (h : hasT l x = true) : l ≠ [] := by rintro rfl; cases h
theorem has_any {v : Value} {l : List ByteArray} {W : World} (h : SRow v l W) (hl : l.length ≤ 1000000) (s : ByteArray) : Calls Tryz.prog 99 #[v, .string s] W fun e w' => e = .returned (.bool (hasT l s)) ∧ w' = W := by
 obtain ⟨a, c, rfl, h2⟩ := h.cells
 by_cases hn : l = []
 ·subst hn
  exact Any.slices_Contains_string_empty lays110 a c s W
 ·obtain ⟨b, off, rfl, -, h3⟩ := h2 hn
  have h4 := Any.slices_Contains_string lays110 b off l.length c l s W (Nat.le_refl _) (by omega) (fun j hj => h3 j _ (by rw [List.getD_eq_getElem?_getD, List.getElem?_eq_getElem hj]; rfl))
  rw [List.take_of_length_le (Nat.le_refl _), hasT_is] at h4
  exact h4
structure SRowF (N : Nat) (v : Value) (l : List ByteArray) (W : World) : Prop where
 r : SRow v l W
 f : ∀ k, v.ownBlock = some k → N ≤ k
theorem infoS' : (Tryz.prog.info? 9).map (fun i => (i.zero, i.size, i.bytes)) = some (some (.string ⟨#[]⟩), 1, 16) := by kernel_rfl
theorem clone_any {v : Value} {l : List ByteArray} {w : World} (h : SRow v l w) (hl : l.length ≤ 1000000) : Calls Tryz.prog 71 #[v] w fun e w' => ∃ v', e = .returned v' ∧ w'.ownsRow w.heap.size 9 1 v' l.length (l.map Value.string) ∧ Below w.heap.size w w' := by
 obtain ⟨i0, hi, hz0, hz1, hz2⟩ := info_parts infoS'
 obtain ⟨a, c, rfl, h2⟩ := h.cells
 cases a with
 | none =>
  have hn : l = [] := Classical.byContradiction fun hn => by obtain ⟨b, off, e, -⟩ := h2 hn; cases e
  subst hn
  refine (AnyE.slices_Clone_nil laysSlE041_f71 0 c w).mono fun e w' q => ?_
  obtain ⟨rfl, rfl⟩ := q
  exact ⟨_, rfl, ⟨rfl, Or.inl ⟨rfl, rfl⟩⟩, Below.refl _ _⟩
 | some a =>
  by_cases hn : l = []
  ·subst hn
   refine (Any.slices_Clone_string_zero laysNm216 a c w).mono fun e w' q => ?_
   obtain ⟨v', rfl, q1, q2⟩ := q
   exact ⟨v', rfl, q1, q2.2⟩
  ·obtain ⟨b, off, e, -, h3⟩ := h2 hn
   obtain rfl := Option.some.inj e
   refine (AnyE.slices_Clone laysSlE041_f71 i0 (.string ⟨#[]⟩) 1 16 hi hz0 hz1 hz2 rfl (by decide) (fun w => Tryz.sizeOf9 w) b off l.length c (l.map Value.string) w (by simp) (by unfold maxLen; omega) (by omega) (fun j u hu => ?_) (fun u hu => ?_)).mono fun e w' q => ?_
   ·rw [List.getElem?_map] at hu
    cases hj : l[j]? with
    | none => rw [hj] at hu; cases hu
    | some t => rw [hj] at hu; cases hu; exact h3 j t hj
   ·obtain ⟨t, -, rfl⟩ := List.mem_map.1 hu; rfl
   ·obtain ⟨v', rfl, q1, -, q2⟩ := q
    exact ⟨v', rfl, q1, q2⟩
end Go.Proofs.YtmpilgkfbibhlaaGreatDoor
namespace Go.Proofs.YtmpilgkfbibhlaaGreatDoor
open Go.RowKit Mr
theorem putRow_at {α : Type} [Inhabited α] {enc : α → Value} {w : World} {b off : Nat} {d : Array α} {cs : Array Value} {t : TypeId} {fr : Nat × Nat} (h : w.heap[b]? = some (.cells cs t fr)) : (Sort.putRow enc w b off d).heap[b]? = some (.cells (Sort.putCells enc off d cs) t fr) := by
 unfold Sort.putRow Sort.mapBlock
 simp [Array.getElem?_modify, h, Sort.onCells]
theorem putRow_below {α : Type} [Inhabited α] {enc : α → Value} {w : World} {b off B : Nat} {d : Array α} (h : B ≤ b) : Below B w (Sort.putRow enc w b off d) := by
 refine ⟨rfl, rfl, rfl, ?_, fun k hk => ?_⟩
 ·unfold Sort.putRow Sort.mapBlock; simp
 ·unfold Sort.putRow Sort.mapBlock
  simp only [Array.getElem?_modify]
  rw [if_neg (by omega)]
theorem without1_any (s x : ByteArray) (B : Nat) (W : World) (hc : W.cell? ⟨B, 0, none⟩ = some (.string s)) :
  Calls Tryz.prog 140 #[.string x, .pointer (some ⟨B, 0, none⟩)] W fun e w' => e = .returned (.bool (eqT x s)) ∧ ∃ q, w' = W.drewN q := by
 unfold eqT
 go_enter Tryz.func140, Tryz.ntmps140
 go_wp2_with fail
 go_ret
 exact ⟨rfl, 0, rfl⟩
theorem filt_len (l : List ByteArray) (p : ByteArray → Bool) : (l.filter p).length ≤ l.length := List.length_filter_le p l
set_option maxHeartbeats 1000000 in
theorem without_any {v : Value} {l : List ByteArray} {w : World} (h : SRow v l w) (hn : l ≠ []) (hl : l.length ≤ 1000000) (s : ByteArray) :
  Calls Tryz.prog 107 #[v, .string s] w fun e w' => ∃ v', e = .returned v' ∧ SRowF w.heap.size v' (dropT l s) w' ∧ Below w.heap.size w w' := by
 have eg : ∀ args w, (callFunc 140 args).run Tryz.prog w = .ok (.enter 140 args) w := enters_of Tryz.func140 (by kernel_rfl) rfl
 have CC := Lib.hid (clone_any (h.step (bAl (W := w) (o := .cells #[.string s] 9))) hl)
 have CD : Hid (∀ (v' : Value) (w2 : World), w2.ownsRow (w.alloc (.cells #[.string s] 9)).heap.size 9 1 v' l.length (l.map Value.string) → Below (w.alloc (.cells #[.string s] 9)).heap.size (w.alloc (.cells #[.string s] 9)) w2 →
   Calls Tryz.prog 90 #[v', .func (.func 140) #[] #[.pointer (some ⟨w.heap.size, 0, none⟩)]] w2 fun e w' => ∃ v'', e = .returned v'' ∧ SRowF w.heap.size v'' (dropT l s) w' ∧ Below w.heap.size w w') := by
  intro v' w2 ho hb
  have hsz : (w.alloc (.cells #[.string s] 9)).heap.size = w.heap.size + 1 := by simp
  rw [hsz] at ho
  obtain ⟨-, h2⟩ := ho
  have hnl : l.length ≠ 0 := fun e => hn (List.length_eq_zero_iff.1 e)
  rcases h2 with ⟨-, h3⟩ | ⟨g, cap, cur, rfl, q2, q3, q4, q5, q6, q7⟩
  ·exact absurd h3 hnl
  have hbox : ∀ W, Below w2.heap.size w2 W → W.cell? ⟨w.heap.size, 0, none⟩ = some (.string s) := fun W hW => by
   have e1 : (w.alloc (.cells #[.string s] 9)).cell? ⟨w.heap.size, 0, none⟩ = some (.string s) := by go_simp
   have e2 : w2.cell? ⟨w.heap.size, 0, none⟩ = some (.string s) := cell_step e1 hb
   exact cell_step e2 hW
  have hcur : ∀ j, j < l.length → cur[j]? = some (.string (l.getD j ByteArray.empty)) := fun j hj => by
   have hj2 : (l.map Value.string)[j]? = some (.string (l.getD j ByteArray.empty)) := by
    rw [List.getElem?_map, List.getD_eq_getElem?_getD, List.getElem?_eq_getElem hj]; rfl
   rw [← q7, List.getElem?_take_of_lt (by simpa using hj)] at hj2
   simpa using hj2
  have hds : l.toArray.size = l.length := by simp
  have hH : Sort.Holds Value.string w2 g 0 l.toArray := fun j hj => by
   rw [hds] at hj
   refine ⟨?_, blk_free q3⟩
   rw [blk_cell q3 (by rw [Nat.zero_add]; exact hcur j hj)]
   simp [List.getD_eq_getElem?_getD, hj]
  have hp : PredAt Tryz.prog 140 #[.pointer (some ⟨w.heap.size, 0, none⟩)] Value.string (fun t => eqT t s) w2 := fun W x hW => without1_any s x w.heap.size W (hbox W hW)
  have hpo : PredOver Tryz.prog 140 #[.pointer (some ⟨w.heap.size, 0, none⟩)] Value.string (fun t => eqT t s) g 0 l.toArray.size w2 := fun n os dk x _ => without1_any s x w.heap.size _ (by
   unfold sortWorld
   have hlt : w.heap.size < w2.heap.size := by have := hb.size; rw [hsz] at this; omega
   rw [Sort.cell?_grow _ _ _ (by show w.heap.size < (Sort.putRow _ _ _ _ _).heap.size; rw [Sort.size_putRow]; exact hlt), Sort.cell?_putRow_other _ _ g 0 _ _ (Or.inl (by show w.heap.size ≠ g; omega))]
   exact hbox w2 (Below.refl _ _))
  have hcon := AnyE.slices_DeleteFunc laysSlH10_f90 Value.string (fun _ => rfl) (fun t => eqT t s) 140 #[.pointer (some ⟨w.heap.size, 0, none⟩)] eg ⟨#[]⟩ (fun w => Tryz.zeroValue9 w) g 0 cap l.toArray w2 hp hpo hH (by rw [hds]; omega) (by rw [hds]; omega)
  rw [hds] at hcon
  refine hcon.mono fun e w' q => ?_
  obtain ⟨rfl, q, rfl⟩ := q
  have hdr : (l.filter fun x => !(eqT x s)) = dropT l s := rfl
  rw [hdr]
  have hle : (dropT l s).length ≤ l.length := filt_len _ _
  refine ⟨_, rfl, ⟨⟨_, cap, rfl, fun hne => ⟨g, 0, _, (0, 0), rfl, putRow_at (w := Sort.ahead w2 q) q3, fun k t hk => ?_⟩⟩, fun k hk => ?_⟩, ?_⟩
  ·have hkl : k < (dropT l s).length := (List.getElem?_eq_some_iff.1 hk).1
   have hcl : k < cur.size := by rw [q6]; omega
   unfold Sort.putCells
   rw [Array.getElem?_mapIdx, Nat.zero_add, Array.getElem?_eq_getElem hcl]
   have hsz2 : (dropT l s ++ List.replicate (l.length - (dropT l s).length) (⟨#[]⟩ : ByteArray)).toArray.size = l.length := by simp; omega
   simp only [Option.map_some]
   rw [if_pos ⟨Nat.zero_le _, by rw [hsz2]; omega⟩, Nat.sub_zero]
   congr 2
   rw [getElem!_pos _ _ (by rw [hsz2]; omega)]
   simp only [List.getElem_toArray]
   rw [List.getElem_append_left hkl]
   rw [List.getElem?_eq_getElem hkl] at hk
   exact Option.some.inj hk
  ·have : g = k := by simpa [Value.ownBlock] using hk
   omega
  ·have b1 : Below w.heap.size w w2 := bStep bAl hb
   exact b1.trans (Below.trans (b := Sort.ahead w2 q) ⟨rfl, rfl, rfl, Nat.le_refl _, fun _ _ => rfl⟩ (putRow_below (by omega)))
 clear h hn hl eg
 generalize dropT l s = r at *
 generalize l.map Value.string = xs at *
 generalize l.length = n at *
 go_enter Tryz.func107, Tryz.ntmps107
 go_wp2_with (first
  | (go_at_call 71; refine CC.out.mono ?_; rintro e w1 ⟨v', rfl, ho, hb⟩; have C2 := Lib.hid (CD.out v' w1 ho hb); clear ho hb)
  | (go_at_call 90; refine C2.out.mono ?_; rintro e w2 ⟨v2, rfl, hr, hb2⟩))
 go_ret
 exact ⟨_, rfl, hr, hb2⟩
end Go.Proofs.YtmpilgkfbibhlaaGreatDoor
