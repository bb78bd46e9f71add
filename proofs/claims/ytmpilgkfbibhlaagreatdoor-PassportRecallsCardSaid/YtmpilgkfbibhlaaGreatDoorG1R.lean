/-
 Contracts of Go's library, laid for this program.
-/
import Derived.Test.YtmpilgkfbibhlaaGreatDoorProg
import Derived.Shelf.Strings.Builder1
import Derived.Shelf.Strings.Builder2
import Derived.Shelf.Strings.OnBuilder
import Derived.Shelf.Strconv.Atoi
import Derived.Shelf.Strconv.Itoa0
import Derived.Shelf.Strconv.Itoa1
import Derived.Shelf.LaysM
import Derived.Shelf.Strconv.Itoa2
import Derived.Shelf.Strconv.Itoa3
import Derived.Shelf.Strconv.Itoa4
import Derived.Shelf.Bytes.Len
import Derived.Shelf.Bytes.TryGrow
import Derived.Shelf.Bytes.GrowSliceCatch
import Derived.Shelf.Bytes.GrowSlice
import Derived.Shelf.Bytes.GrowRow0
import Derived.Shelf.Bytes.GrowRow
import Derived.Shelf.Bytes.GrowNil
import Derived.Shelf.Bytes.Grow
import Derived.Shelf.Bytes.WriteByte
import Derived.Shelf.Bytes.WriteString
import Derived.Shelf.Bytes.Bytes
import Derived.Shelf.Strconv.AtoiErrFast
import Derived.Shelf.Strconv.ParseIntEmpty
import Derived.Shelf.Strconv.AtoiFail
import Derived.Shelf.Strconv.Clone
import Derived.Shelf.Strconv.SyntaxError
import Derived.Shelf.LaysC
import Derived.Shelf.Strconv.ToError
import Derived.Shelf.Strconv.Lower
import Derived.Shelf.Strconv.ParseUint10
import Derived.Shelf.Strconv.ParseUint10Empty
import Derived.Shelf.Strconv.ParseUint10Any
import Derived.Shelf.Strconv.ParseInt10
import Derived.Shelf.Strconv.AtoiLong
import Derived.Shelf.Strconv.AtoiInnerAll
import Derived.Shelf.Strconv.RangeError
import Derived.Shelf.Strconv.ToErrorRange
import Derived.Shelf.Strconv.AtoiAll
import Derived.Shelf.Strconv.ErrVarAll
import Derived.Shelf.Strings.Search1
import Derived.Shelf.Strings.Search2
import Derived.Shelf.Strings.Cut
import Derived.Shelf.Strings.Shaped
import Derived.Shelf.Slices.Turned
import Derived.Shelf.Slices.Clone
import Derived.Ground.Names2Prog
import Derived.Ground.SlgnProg
import Derived.Shelf.SlicesE.Clone
import Derived.Ground.SlgfProg
import Derived.Shelf.SlicesE.IndexFunc
import Derived.Shelf.SlicesE.DeleteFunc
import Derived.RowKit
import Derived.Lib.Strings
import Derived.Lib.ItoaNum
import Derived.Test.YtmpilgkfbibhlaaGreatDoorG0R
import Derived.Maps.AppendAt
import Derived.OneCell
import Derived.OwnWalk
set_option linter.unusedSimpArgs false
set_option linter.unusedVariables false
namespace Go.Proofs.YtmpilgkfbibhlaaGreatDoor
open Go.Shelf
def lays110_ren : Go.Shelf.Ren := ⟨fun | 110 => 99 | 109 => 135 | n => n, fun | 31 => 47 | 9 => 9 | 4 => 4 | 3 => 3 | 0 => 0 | n => n, fun | n => n⟩
theorem lays110 : Go.Proofs.Lays.n110 Tryz.prog lays110_ren := {
 mixed := by kernel_rfl
 f109 := Tryz.func135.trans (congrArg some (by kernel_rfl))
 f110 := Tryz.func99.trans (congrArg some (by kernel_rfl))
 t0 := Tryz.underlying0
 a0 := Tryz.isAgg0
 z0 := Tryz.sizeOf0
 v0 := Tryz.zeroValue0
 t3 := Tryz.underlying3
 a3 := Tryz.isAgg3
 z3 := Tryz.sizeOf3
 v3 := Tryz.zeroValue3
 t4 := Tryz.underlying4
 a4 := Tryz.isAgg4
 z4 := Tryz.sizeOf4
 v4 := Tryz.zeroValue4
 t9 := Tryz.underlying9
 a9 := Tryz.isAgg9
 z9 := Tryz.sizeOf9
 v9 := Tryz.zeroValue9
 t31 := Tryz.underlying47
 a31 := Tryz.isAgg47
 z31 := Tryz.sizeOf47
 v31 := Tryz.zeroValue47 }
def laysNm216_ren : Go.Shelf.Ren := ⟨fun | 16 => 71 | n => n, fun | 24 => 47 | 9 => 9 | 4 => 4 | n => n, fun | n => n⟩
theorem laysNm216 : Go.Proofs.Lays2.n16 Tryz.prog laysNm216_ren := {
 mixed := by kernel_rfl
 f16 := Tryz.func71.trans (congrArg some (by kernel_rfl))
 t4 := Tryz.underlying4
 a4 := Tryz.isAgg4
 z4 := Tryz.sizeOf4
 v4 := Tryz.zeroValue4
 t9 := Tryz.underlying9
 a9 := Tryz.isAgg9
 z9 := Tryz.sizeOf9
 v9 := Tryz.zeroValue9
 t24 := Tryz.underlying47
 a24 := Tryz.isAgg47
 z24 := Tryz.sizeOf47
 v24 := Tryz.zeroValue47
 i9 := by kernel_rfl }
def laysSlE041_f69_ren : Go.Shelf.Ren := ⟨fun | 41 => 69 | n => n, fun | 22 => 83 | 23 => 22 | 4 => 4 | n => n, fun | n => n⟩
theorem laysSlE041_f69 : Go.Proofs.SlLaysE0.n41 Tryz.prog laysSlE041_f69_ren := {
 mixed := by kernel_rfl
 f41 := ⟨Tryz.f69.name, by decide, Tryz.func69.trans (congrArg some (by kernel_rfl))⟩
 t4 := Tryz.underlying4
 a4 := Tryz.isAgg4
 z4 := Tryz.sizeOf4
 v4 := Tryz.zeroValue4
 t22 := Tryz.underlying83
 a22 := Tryz.isAgg83
 z22 := Tryz.sizeOf83
 v22 := Tryz.zeroValue83 }
def laysSlE041_f71_ren : Go.Shelf.Ren := ⟨fun | 41 => 71 | n => n, fun | 22 => 47 | 23 => 9 | 4 => 4 | n => n, fun | n => n⟩
theorem laysSlE041_f71 : Go.Proofs.SlLaysE0.n41 Tryz.prog laysSlE041_f71_ren := {
 mixed := by kernel_rfl
 f41 := ⟨Tryz.f71.name, by decide, Tryz.func71.trans (congrArg some (by kernel_rfl))⟩
 t4 := Tryz.underlying4
 a4 := Tryz.isAgg4
 z4 := Tryz.sizeOf4
 v4 := Tryz.zeroValue4
 t22 := Tryz.underlying47
 a22 := Tryz.isAgg47
 z22 := Tryz.sizeOf47
 v22 := Tryz.zeroValue47 }
def laysSlH8_f93_ren : Go.Shelf.Ren := ⟨fun | 8 => 93 | 6 => 132 | n => n, fun | 22 => 83 | 23 => 22 | 25 => 157 | 4 => 4 | 3 => 3 | 0 => 0 | n => n, fun | n => n⟩
theorem laysSlH8_f93 : Go.Proofs.SlLaysH.n8 Tryz.prog laysSlH8_f93_ren := {
 mixed := by kernel_rfl
 f6 := ⟨Tryz.f132.name, by decide, Tryz.func132.trans (congrArg some (by kernel_rfl))⟩
 f8 := ⟨Tryz.f93.name, by decide, Tryz.func93.trans (congrArg some (by kernel_rfl))⟩
 t0 := Tryz.underlying0
 a0 := Tryz.isAgg0
 z0 := Tryz.sizeOf0
 v0 := Tryz.zeroValue0
 t3 := Tryz.underlying3
 a3 := Tryz.isAgg3
 z3 := Tryz.sizeOf3
 v3 := Tryz.zeroValue3
 t4 := Tryz.underlying4
 a4 := Tryz.isAgg4
 z4 := Tryz.sizeOf4
 v4 := Tryz.zeroValue4
 t22 := Tryz.underlying83
 a22 := Tryz.isAgg83
 z22 := Tryz.sizeOf83
 v22 := Tryz.zeroValue83
 a23 := Tryz.isAgg22
 z23 := Tryz.sizeOf22
 t25 := Tryz.underlying157
 a25 := Tryz.isAgg157
 z25 := Tryz.sizeOf157
 v25 := Tryz.zeroValue157 }
def laysSlH10_f90_ren : Go.Shelf.Ren := ⟨fun | 10 => 90 | 6 => 131 | n => n, fun | 22 => 47 | 23 => 9 | 25 => 56 | 3 => 3 | 4 => 4 | 0 => 0 | n => n, fun | n => n⟩
theorem laysSlH10_f90 : Go.Proofs.SlLaysH.n10 Tryz.prog laysSlH10_f90_ren := {
 mixed := by kernel_rfl
 f6 := ⟨Tryz.f131.name, by decide, Tryz.func131.trans (congrArg some (by kernel_rfl))⟩
 f10 := ⟨Tryz.f90.name, by decide, Tryz.func90.trans (congrArg some (by kernel_rfl))⟩
 t0 := Tryz.underlying0
 a0 := Tryz.isAgg0
 z0 := Tryz.sizeOf0
 v0 := Tryz.zeroValue0
 t3 := Tryz.underlying3
 a3 := Tryz.isAgg3
 z3 := Tryz.sizeOf3
 v3 := Tryz.zeroValue3
 t4 := Tryz.underlying4
 a4 := Tryz.isAgg4
 z4 := Tryz.sizeOf4
 v4 := Tryz.zeroValue4
 t22 := Tryz.underlying47
 a22 := Tryz.isAgg47
 z22 := Tryz.sizeOf47
 v22 := Tryz.zeroValue47
 a23 := Tryz.isAgg9
 z23 := Tryz.sizeOf9
 t25 := Tryz.underlying56
 a25 := Tryz.isAgg56
 z25 := Tryz.sizeOf56
 v25 := Tryz.zeroValue56 }
end Go.Proofs.YtmpilgkfbibhlaaGreatDoor
namespace Go.Proofs.YtmpilgkfbibhlaaGreatDoor
open Go
abbrev Evt := Int × Int × Int × Int × ByteArray × ByteArray
def eqT (a b : ByteArray) : Bool := a.toList == b.toList
theorem eqT_iff {a b : ByteArray} : eqT a b = true ↔ a = b := by
 unfold eqT
 rw [Lib.toList_data, Lib.toList_data]
 constructor
 ·intro h
  have h' : a.data.toList = b.data.toList := by simpa using h
  obtain ⟨⟨x⟩⟩ := a
  obtain ⟨⟨y⟩⟩ := b
  have h'' : x = y := h'
  rw [h'']
 ·rintro rfl; simp
def modN (nm : ByteArray) (i : Nat) : ByteArray := nm ++ ⟨#[58]⟩ ++ ⟨(Lib.itoa (i : Int)).toArray⟩
def dropT (l : List ByteArray) (s : ByteArray) : List ByteArray := l.filter fun t => !(eqT t s)
def hasT (l : List ByteArray) (s : ByteArray) : Bool := l.any fun t => eqT t s
def modStep (name : ByteArray) (l : List ByteArray) : Evt → List ByteArray
 | (k, _, _, b, nm, _) => if k = 1 then l ++ (List.range b.toNat).map (modN name) else if k = 5 then l ++ [nm] else if k = 6 then dropT l nm else l
def opnStep (l : List ByteArray) : Evt → List ByteArray
 | (k, _, _, _, nm, _) => if k = 7 then l ++ [nm] else if k = 8 then dropT l nm else l
def modsOf (name : ByteArray) (h : List Evt) : List ByteArray := h.foldl (modStep name) []
def opnsOf (h : List Evt) : List ByteArray := h.foldl opnStep []
def ruleB (name : ByteArray) (ms os : List ByteArray) : Evt → Bool
 | (k, _, _, _, nm, ot) => if k = 1 then false else if k = 5 then !(hasT ms nm) && decide (ms.length < 32) && !(eqT ot name) else if k = 6 then hasT ms nm && !(eqT ot name) else
   if k = 7 then !(hasT os nm) else if k = 8 then hasT os nm else if k = 9 then decide (ms.length = 0) else true
def canR (name : ByteArray) (h : List Evt) (e : Evt) : Bool := match h.getLast? with
 | none => decide (e.1 = 1)
 | some z => !(decide (e.1 = 1)) && !(decide (e.2.1 < z.2.1)) && !(decide (z.1 = 9)) && ruleB name (modsOf name h) (opnsOf h) e
theorem snocInd {α : Type} {p : List α → Prop} (h0 : p []) (h1 : ∀ l a, p l → p (l ++ [a])) : ∀ l, p l := by
 have key : ∀ l : List α, p l.reverse := by
  intro l
  induction l with
  | nil => exact h0
  | cons a l ih => rw [List.reverse_cons]; exact h1 _ _ ih
 intro l
 have := key l.reverse
 rwa [List.reverse_reverse] at this
structure LifeS where
 n : Nat
 at_ : Int
 made : Evt
 ms : List ByteArray
 os : List ByteArray
 thr : Int
 hot : Int
 tst : Bool
 tes : Int
 fau : Int
 mov : Int
 scr : Bool
def evt0 : Evt := (0, 0, 0, 0, ⟨#[]⟩, ⟨#[]⟩)
def life0 : LifeS := ⟨0, 0, evt0, [], [], 0, 0, false, 0, 0, 0, false⟩
def LifeS.add (name : ByteArray) (x : LifeS) (e : Evt) : LifeS :=
 {n := x.n + 1, at_ := e.2.1, made := if e.1 = 1 then e else x.made, ms := modStep name x.ms e, os := opnStep x.os e,
  thr := if e.1 = 2 then x.thr + e.2.2.1 else x.thr, hot := if e.1 = 2 then x.hot + e.2.2.2.1 else x.hot,
  tst := if e.1 = 3 then true else x.tst, tes := if e.1 = 3 then e.2.2.1 else x.tes, fau := if e.1 = 4 then x.fau + 1 else x.fau,
  mov := if e.1 = 5 then x.mov + 1 else if e.1 = 6 then x.mov + 1 else x.mov, scr := if e.1 = 9 then true else x.scr }
def lifeOf (name : ByteArray) (h : List Evt) : LifeS := h.foldl (LifeS.add name) life0
def canP (name : ByteArray) (x : LifeS) (e : Evt) : Bool :=
 if x.n = 0 then decide (e.1 = 1) else if e.2.1 < x.at_ then false else if x.scr = true then false else ruleB name x.ms x.os e
theorem lifeOf_snoc (name : ByteArray) (h : List Evt) (e : Evt) : lifeOf name (h ++ [e]) = (lifeOf name h).add name e := by
 unfold lifeOf; rw [List.foldl_append]; rfl
theorem life_n (name : ByteArray) : ∀ h, (lifeOf name h).n = h.length := by
 refine snocInd rfl fun h e ih => ?_
 rw [lifeOf_snoc, List.length_append]; show _ + 1 = _; rw [ih]; rfl
theorem life_ms (name : ByteArray) : ∀ h, (lifeOf name h).ms = modsOf name h := by
 refine snocInd rfl fun h e ih => ?_
 rw [lifeOf_snoc]; unfold modsOf; rw [List.foldl_append]; show modStep _ _ _ = _; rw [ih]; rfl
theorem life_os (name : ByteArray) : ∀ h, (lifeOf name h).os = opnsOf h := by
 refine snocInd rfl fun h e ih => ?_
 rw [lifeOf_snoc]; unfold opnsOf; rw [List.foldl_append]; show opnStep _ _ = _; rw [ih]; rfl
def LegH (name : ByteArray) (h : List Evt) : Prop := ∀ g e r, h = g ++ e :: r → canR name g e = true
theorem LegH.nil (name : ByteArray) : LegH name [] := fun g e r h => by simp at h
theorem LegH.snoc {name : ByteArray} {h : List Evt} {e : Evt} (hh : LegH name h) (he : canR name h e = true) : LegH name (h ++ [e]) := by
 intro g e2 r hg
 rcases List.eq_nil_or_concat r with rfl | ⟨r', z, rfl⟩
 ·have := List.append_inj' hg rfl
  obtain ⟨rfl, e3⟩ := this
  obtain rfl : e = e2 := by simpa using e3
  exact he
 ·have h2 : h ++ [e] = (g ++ e2 :: r') ++ [z] := by rw [hg]; simp
  have := List.append_inj' h2 rfl
  exact hh g e2 r' this.1
theorem LegH.init {name : ByteArray} {h : List Evt} {e : Evt} (hh : LegH name (h ++ [e])) : LegH name h := fun g e2 r hg => hh g e2 (r ++ [e]) (by rw [hg]; simp)
theorem LegH.last {name : ByteArray} {h : List Evt} {e : Evt} (hh : LegH name (h ++ [e])) : canR name h e = true := hh h e [] rfl
theorem life_last {name : ByteArray} : ∀ (h : List Evt) {z : Evt}, LegH name h → h.getLast? = some z → (lifeOf name h).at_ = z.2.1 ∧ (lifeOf name h).scr = decide (z.1 = 9) := by
 refine snocInd (fun _ hz => by cases hz) fun h e ih => ?_
 ·intro z hl hz
  obtain rfl : e = z := by simpa using hz
  rw [lifeOf_snoc]
  refine ⟨rfl, ?_⟩
  show (if e.1 = 9 then true else (lifeOf name h).scr) = _
  by_cases c : e.1 = 9
  ·rw [if_pos c, decide_eq_true c]
  ·rw [if_neg c, decide_eq_false c]
   have hc := hl.last
   unfold canR at hc
   cases hg : h.getLast? with
   | none =>
    obtain rfl : h = [] := by simpa using hg
    rfl
   | some y =>
    rw [hg] at hc
    simp only [Bool.and_eq_true, Bool.not_eq_true', decide_eq_false_iff_not] at hc
    rw [(ih hl.init hg).2, decide_eq_false hc.1.2]
theorem can_same {name : ByteArray} {h : List Evt} (hl : LegH name h) (e : Evt) : canP name (lifeOf name h) e = canR name h e := by
 unfold canP canR
 rw [life_n, life_ms, life_os]
 cases hg : h.getLast? with
 | none =>
  obtain rfl : h = [] := by simpa using hg
  rfl
 | some z =>
  have hn : h ≠ [] := by rintro rfl; cases hg
  have hlen : ¬ h.length = 0 := fun c => hn (List.length_eq_zero_iff.1 c)
  rw [if_neg hlen, (life_last h hl hg).1, (life_last h hl hg).2]
  dsimp only
  by_cases c1 : e.2.1 < z.2.1
  ·simp [c1]
  ·by_cases c2 : z.1 = 9
   ·simp [c2]
   ·by_cases c3 : e.1 = 1
    ·obtain ⟨k, t, a, b, nm, ot⟩ := e
     dsimp only at c3
     subst c3
     simp [ruleB]
    ·simp [c1, c2, c3]
end Go.Proofs.YtmpilgkfbibhlaaGreatDoor
namespace Go.Proofs.YtmpilgkfbibhlaaGreatDoor
open Go.RowKit
namespace Mr
theorem bAl {W : World} {o : Obj} : Below W.heap.size W (W.alloc o) := (Below.refl _ _).alloc (Nat.le_refl _) _
theorem own_base {W : World} {B B2 e s n : Nat} {v : Value} {xs : List Value} (h : W.ownsRow B e s v n xs) (hB : B2 ≤ B) : W.ownsRow B2 e s v n xs := by
 obtain ⟨h1, h2⟩ := h
 refine ⟨h1, ?_⟩
 rcases h2 with h2 | ⟨g, cap, cur, q1, q2, q3⟩
 ·exact Or.inl h2
 ·exact Or.inr ⟨g, cap, cur, q1, by omega, q3⟩
theorem own_step {W w2 : World} {B e s n : Nat} {v : Value} {xs : List Value} (h : W.ownsRow B e s v n xs) (hb : Below W.heap.size W w2) : w2.ownsRow B e s v n xs := by
 obtain ⟨h1, h2⟩ := h
 refine ⟨h1, ?_⟩
 rcases h2 with h2 | ⟨g, cap, cur, q1, q2, q3, q4⟩
 ·exact Or.inl h2
 ·exact Or.inr ⟨g, cap, cur, q1, q2, blk_step q3 hb, q4⟩
structure Rw where
 E : TypeId
 sz : Nat
 v : Value
 n : Nat
 xs : List Value
def Rw.Own (W : World) (B : Nat) (r : Rw) : Prop := W.ownsRow B r.E r.sz r.v r.n r.xs
theorem Rw.Own.step {W w2 : World} {B : Nat} {r : Rw} (h : r.Own W B) (hb : Below W.heap.size W w2) : r.Own w2 B := own_step h hb
theorem Rw.Own.lt {W : World} {B : Nat} {r : Rw} (h : r.Own W B) : ∀ k, r.v.ownBlock = some k → B ≤ k ∧ k < W.heap.size := World.ownsRow.lt h
theorem Rw.Own.get {W : World} {B : Nat} {r : Rw} (h : r.Own W B) : ∃ a c, r.v = .slice a r.n c ∧ (r.n * r.sz ≠ 0 → ∃ g, a = some ⟨g, 0, none⟩ ∧ g < W.heap.size ∧ ∀ j u, r.xs[j]? = some u → W.cell? ⟨g, j, none⟩ = some u) := by
 obtain ⟨h1, h2⟩ := h
 rcases h2 with ⟨h2, h3⟩ | ⟨g, cap, cur, q1, q2, q3, q4, q5, q6, q7⟩
 ·exact ⟨none, 0, by rw [h2, h3], fun h => absurd (by rw [h3, Nat.zero_mul]) h⟩
 ·refine ⟨_, cap, q1, fun _ => ⟨g, rfl, blk_lt q3, fun j u hj => ?_⟩⟩
  have hjl := (List.getElem?_eq_some_iff.1 hj).1
  rw [← q7, List.getElem?_take_of_lt (by omega)] at hj
  exact blk_cell q3 (by simpa using hj)
def Far (u v : Value) : Prop := ∀ k, u.ownBlock = some k → v.ownBlock = some k → False
theorem Far.symm {u v : Value} (h : Far u v) : Far v u := fun k h1 h2 => h k h2 h1
theorem Far.ne {u v : Value} (h : Far u v) : u.ownBlock = none ∨ u.ownBlock ≠ v.ownBlock := by
 cases hu : u.ownBlock with
 | none => exact Or.inl rfl
 | some k => exact Or.inr fun e => h k hu e.symm
section
variable {w W w2 w' : World} {B : Nat} {L L' : Nat → Option Obj} {f f' : Nat → Option Rw} {s : Nat} {r r' : Rw}
theorem own_fresh {cs : Array Value} {E sz n cap : Nat} (hl : cap ≤ maxLen) (hn : n ≤ cap) (hs : cs.size = cap * sz) : (⟨E, sz, .slice (some ⟨W.heap.size, 0, none⟩) n cap, n, cs.toList.take (n * sz)⟩ : Rw).Own (W.alloc (.cells cs E)) W.heap.size := by
 have hle : n * sz ≤ cs.size := by rw [hs]; exact Nat.mul_le_mul_right _ hn
 exact ⟨by simp [hle], Or.inr ⟨_, _, _, rfl, Nat.le_refl _, blk_new W _, hn, hl, hs, rfl⟩⟩
end
section
variable {P : Program}
theorem firstCells_zero {x : Value} (h : ∃ a n c, x = .slice a n c) (size : Nat) (w : World) : (Builtin.firstCells size 0 x).run P w = .ok #[] w := by
 obtain ⟨a, n, c, rfl⟩ := h
 cases a with
 | none => rfl
 | some a =>
  simp only [Builtin.firstCells, Nat.zero_mul]
  have := run_firstCells_some (P := P) w size 0 a n c [] (by simp) (fun j x hx => by simp at hx)
  simpa [Builtin.firstCells] using this
theorem run_app_zero (w : World) (t ty e : TypeId) (i : TypeInfo) (ht : P.underlying t = some (.slice e)) (hi : P.info? e = some i) (base : Option Addr) (n cap : Nat) (h : n ≤ cap) (a : Option Addr) (c : Nat) :
  (Builtin.append_ #[t, t] ty #[.slice base n cap, .slice a 0 c]).run P w = .ok (.slice base n cap) w := by
 have hfc := firstCells_zero (P := P) ⟨a, 0, c, rfl⟩ i.size w
 cases base with
 | none => simp [Builtin.append_, run_underlying ht, sizeOf, typeInfo, hi, Builtin.lenOf, h, hfc]
 | some b => simp [Builtin.append_, run_underlying ht, sizeOf, typeInfo, hi, Builtin.lenOf, h, hfc, storeCells]
theorem add_at (p off j : Nat) : (⟨p, off, none⟩ : Addr).add j = ⟨p, off + j, none⟩ := by
 unfold Addr.add
 split
 ·rename_i h; subst h; rfl
 ·rfl
theorem run_app (w : World) (base : Nat) (t ty e : TypeId) (i : TypeInfo) (z : Value) (size bytes : Nat) (ht : P.underlying t = some (.slice e)) (hi : P.info? e = some i) (hz : i.zero = some z)
  (hsize : i.size = size) (hby : i.bytes = bytes) (hzs : z.cells.size = size) (hsz : 0 < size)
  (v : Value) (n : Nat) (xs : List Value) (hown : w.ownsRow base e size v n xs)
  (a : Option Addr) (m c : Nat) (news : List Value) (hl : news.length = m * size) (hnews : m * size ≠ 0 → ∃ p off, a = some ⟨p, off, none⟩ ∧ ∀ j u, news[j]? = some u → w.cell? ⟨p, off + j, none⟩ = some u) (h1 : ∀ u ∈ news, u.oneCell' = true)
  (h63 : n + m ≤ maxLen) (hbytes : (n + m) * bytes ≤ 140737488355328) (hbase : base ≤ w.heap.size) :
  ∃ v' w', (Builtin.append_ #[t, t] ty #[v, .slice a m c]).run P w = .ok v' w' ∧ w'.ownsRow base e size v' (n + m) (xs ++ news) ∧ w.grownBy w' v.ownBlock ∧ (v'.ownBlock = v.ownBlock ∨ v'.ownBlock = some w.heap.size) := by
 by_cases hm : m = 0
 ·subst hm
  obtain rfl : news = [] := List.eq_nil_of_length_eq_zero (by simpa using hl)
  refine ⟨v, w, ?_, by simpa using hown, ⟨rfl, rfl, rfl, Nat.le_refl _, fun _ _ _ => rfl⟩, Or.inl rfl⟩
  rcases hown.2 with ⟨rfl, h5⟩ | ⟨g, cap, cur, rfl, -, -, h4, -⟩
  ·subst h5; exact run_app_zero w _ _ _ _ ht hi _ _ _ (Nat.le_refl _) _ _
  ·exact run_app_zero w _ _ _ _ ht hi _ _ _ h4 _ _
 ·obtain ⟨p, off, rfl, hc⟩ := hnews (Nat.mul_ne_zero hm (by omega))
  obtain ⟨v', w', q1, q2, q3, -, q5⟩ := run_append_own_at (P := P) w base t ty e i z size bytes ht hi hz hsize hby hzs hsz v n xs hown ⟨p, off, none⟩ m c news hl (fun j u hj => by rw [add_at]; exact hc j u hj) h1 h63 hbytes hbase
  exact ⟨v', w', q1, q2, q3, q5⟩
theorem wp_app (w : World) {o : Oper} {a : Act} {K : Act → World → Prop} {Q : Exit → Act → World → Prop} (s x : Operand) (t : TypeId) (ho : o.op = .call { callee := .builtin .append, args := #[s, x], argTypes := #[t, t] })
  (base : Nat) (e : TypeId) (i : TypeInfo) (z : Value) (size bytes : Nat) (ht : P.underlying t = some (.slice e)) (hi : P.info? e = some i) (hz : i.zero = some z)
  (hsize : i.size = size) (hby : i.bytes = bytes) (hzs : z.cells.size = size) (hsz : 0 < size)
  (v : Value) (n : Nat) (xs : List Value) (hs : a.eval s = v) (hown : w.ownsRow base e size v n xs)
  (ad : Option Addr) (m c : Nat) (news : List Value) (hx : a.eval x = .slice ad m c) (hl : news.length = m * size) (hnews : m * size ≠ 0 → ∃ p off, ad = some ⟨p, off, none⟩ ∧ ∀ j u, news[j]? = some u → w.cell? ⟨p, off + j, none⟩ = some u) (h1 : ∀ u ∈ news, u.oneCell' = true)
  (h63 : n + m ≤ maxLen) (hbytes : (n + m) * bytes ≤ 140737488355328) (hbase : base ≤ w.heap.size)
  (h : ∀ v' w', w'.ownsRow base e size v' (n + m) (xs ++ news) → w.grownBy w' v.ownBlock → (v'.ownBlock = v.ownBlock ∨ v'.ownBlock = some w.heap.size) → K (a.put o.dst v') w') : o.wp P a w K Q := by
 obtain ⟨v', w', hr, h2, h3, h5⟩ := run_app (P := P) w base t o.type e i z size bytes ht hi hz hsize hby hzs hsz v n xs hown ad m c news hl hnews h1 h63 hbytes hbase
 unfold Oper.wp execOp
 simp only [ho, resolve, invoke, builtin, Sem.run_bind, Sem.run_pure, Result.andThen_ok, List.map_toArray, List.map_cons, List.map_nil, hs, hx, hr]
 exact h v' w' h2 h3 h5
theorem wpList_app {ops : Array Oper} {rest : List Oper} (w : World) {o : Oper} {a : Act} {Q : Exit → Act → World → Prop} (hgd : o.guard = none) (s x : Operand) (t : TypeId) (ho : o.op = .call { callee := .builtin .append, args := #[s, x], argTypes := #[t, t] })
  (base : Nat) (e : TypeId) (i : TypeInfo) (z : Value) (size bytes : Nat) (ht : P.underlying t = some (.slice e)) (hi : P.info? e = some i) (hz : i.zero = some z)
  (hsize : i.size = size) (hby : i.bytes = bytes) (hzs : z.cells.size = size) (hsz : 0 < size)
  (v : Value) (n : Nat) (xs : List Value) (hs : a.eval s = v) (hown : w.ownsRow base e size v n xs)
  (ad : Option Addr) (m c : Nat) (news : List Value) (hx : a.eval x = .slice ad m c) (hl : news.length = m * size) (hnews : m * size ≠ 0 → ∃ p off, ad = some ⟨p, off, none⟩ ∧ ∀ j u, news[j]? = some u → w.cell? ⟨p, off + j, none⟩ = some u) (h1 : ∀ u ∈ news, u.oneCell' = true)
  (h63 : n + m ≤ maxLen) (hbytes : (n + m) * bytes ≤ 140737488355328) (hbase : base ≤ w.heap.size)
  (h : ∀ v' w', w'.ownsRow base e size v' (n + m) (xs ++ news) → w.grownBy w' v.ownBlock → (v'.ownBlock = v.ownBlock ∨ v'.ownBlock = some w.heap.size) → wpList P ops Q rest (a.put o.dst v') w') : wpList P ops Q (o :: rest) a w :=
 wpList_plain hgd fun _ hK => wp_app w s x t ho base e i z size bytes ht hi hz hsize hby hzs hsz v n xs hs hown ad m c news hx hl hnews h1 h63 hbytes hbase fun v' w' h2 h3 h5 => hK _ _ (h v' w' h2 h3 h5)
end
end Mr
end Go.Proofs.YtmpilgkfbibhlaaGreatDoor
