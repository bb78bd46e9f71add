/-
 add: the kinds that change a list.
-/
import Derived.Test.YtmpilgkfbibhlaaGreatDoorG0R
import Derived.Test.YtmpilgkfbibhlaaGreatDoorG6R
import Derived.Test.YtmpilgkfbibhlaaGreatDoorProg
import Derived.Shelf.Strings.Builder1
import Derived.Shelf.Strings.Builder2
import Derived.Shelf.Strings.OnBuilder
import Derived.Shelf.Strconv.Atoi
import Derived.Shelf.Strconv.Itoa0
import Derived.Shelf.Strconv.Itoa1
import Derived.Shelf.LaysM
import Derived.Shelf.Strconv.Itoa2
import Derived.Shelf.Strconv.Itoa3
import Derived.Shelf.Strconv.Itoa4
import Derived.Shelf.Bytes.Len
import Derived.Shelf.Bytes.TryGrow
import Derived.Shelf.Bytes.GrowSliceCatch
import Derived.Shelf.Bytes.GrowSlice
import Derived.Shelf.Bytes.GrowRow0
import Derived.Shelf.Bytes.GrowRow
import Derived.Shelf.Bytes.GrowNil
import Derived.Shelf.Bytes.Grow
import Derived.Shelf.Bytes.WriteByte
import Derived.Shelf.Bytes.WriteString
import Derived.Shelf.Bytes.Bytes
import Derived.Shelf.Strconv.AtoiErrFast
import Derived.Shelf.Strconv.ParseIntEmpty
import Derived.Shelf.Strconv.AtoiFail
import Derived.Shelf.Strconv.Clone
import Derived.Shelf.Strconv.SyntaxError
import Derived.Shelf.LaysC
import Derived.Shelf.Strconv.ToError
import Derived.Shelf.Strconv.Lower
import Derived.Shelf.Strconv.ParseUint10
import Derived.Shelf.Strconv.ParseUint10Empty
import Derived.Shelf.Strconv.ParseUint10Any
import Derived.Shelf.Strconv.ParseInt10
import Derived.Shelf.Strconv.AtoiLong
import Derived.Shelf.Strconv.AtoiInnerAll
import Derived.Shelf.Strconv.RangeError
import Derived.Shelf.Strconv.ToErrorRange
import Derived.Shelf.Strconv.AtoiAll
import Derived.Shelf.Strconv.ErrVarAll
import Derived.Shelf.Strings.Search1
import Derived.Shelf.Strings.Search2
import Derived.Shelf.Strings.Cut
import Derived.Shelf.Strings.Shaped
import Derived.Shelf.Slices.Turned
import Derived.Ground.SlgnProg
import Derived.Shelf.SlicesE.Clone
import Derived.Ground.SlgfProg
import Derived.Shelf.SlicesE.IndexFunc
import Derived.Shelf.SlicesE.DeleteFunc
import Derived.Lib.ItoaLen
set_option linter.unusedSimpArgs false
set_option linter.unusedVariables false
namespace Go.Proofs.YtmpilgkfbibhlaaGreatDoor
open Go.RowKit Mr
theorem own_typed {W : World} {base sz n k : Nat} {E : TypeId} {v : Value} {xs : List Value} (h : W.ownsRow base E sz v n xs) (hk : v.ownBlock = some k) : base ≤ k ∧ ∃ cs, W.heap[k]? = some (.cells cs E (0, 0)) := by
 obtain ⟨h1, h2⟩ := h
 rcases h2 with ⟨h2, h3⟩ | ⟨g, cap, cur, q1, q2, q3, -⟩
 ·rw [h2] at hk; cases hk
 ·rw [q1] at hk
  obtain rfl : g = k := by simpa [Value.ownBlock] using hk
  exact ⟨q2, cur, q3⟩
theorem AddC.grownS {T : TypeId} {B off : Nat} {name : ByteArray} {w W w2 : World} {e : Evt} {x : LifeS} {vm vo u : Value} (h : AddC T B off name w w.heap.size e x vm vo W) (hg : W.grownBy w2 u.ownBlock) (hu : ∀ k, u.ownBlock = some k → w.heap.size ≤ k ∧ ∃ cs, W.heap[k]? = some (.cells cs 9 (0, 0))) : AddC T B off name w w.heap.size e x vm vo w2 :=
 h.grown hg fun k hk => ⟨(hu k hk).1, fun c => by
  obtain ⟨cs, q⟩ := (hu k hk).2
  have := h.box
  rw [← c, q] at this
  simp at this⟩
structure PutS (C : Bool → Value → World → Prop) (base : Nat) (vr : Value) (l : List ByteArray) (t : ByteArray) (b0 b1 b2 b3 b4 : Bool) (v0 v1 v2 v3 : Value) (W : World) : Prop where
 s : C b4 v3 W
 r0 : b0 = true → v0 = vr
 r1 : b1 = true → b3 = false → W.ownsRow base 9 1 v1 l.length (l.map Value.string)
 r2 : b2 = true → ∃ g, v2 = .slice (some ⟨g, 0, none⟩) 1 1 ∧ (b3 = false → W.heap[g]? = some (.cells #[.string t] 9 (0, 0)))
 r3 : b3 = true → W.ownsRow base 9 1 v3 (l ++ [t]).length ((l ++ [t]).map Value.string)
 n1 : b0 = false → b1 = false
 n2 : b1 = false → b3 = false
 n3 : b2 = false → b3 = false
 n4 : b3 = false → b4 = false
 hb : base ≤ W.heap.size
section
variable {C : Bool → Value → World → Prop} {base : Nat} {vr : Value} {l : List ByteArray} {t : ByteArray} {b0 b1 b2 b3 b4 : Bool} {v0 v1 v2 v3 v7 : Value} {W w2 : World}
theorem PutS.clone (h : PutS C base vr l t true false b2 false false v0 v1 v2 v3 W) (hC : ∀ q v W w2, C q v W → Below W.heap.size W w2 → C q v w2) (ho : w2.ownsRow W.heap.size 9 1 v7 l.length (l.map Value.string)) (hb : Below W.heap.size W w2) :
  PutS C base vr l t true true b2 false false v0 v7 v2 v3 w2 :=
 ⟨hC _ _ _ _ h.s hb, h.r0, fun _ _ => own_base ho h.hb, (fun e => by obtain ⟨g, q1, q2⟩ := h.r2 e; exact ⟨g, q1, fun e2 => blk_step (q2 e2) hb⟩), (fun e => by cases e), (fun e => by cases e), (fun e => by cases e), fun _ => rfl, fun _ => rfl, Nat.le_trans h.hb hb.size⟩
theorem PutS.mk2 (h : PutS C base vr l t b0 b1 false false false v0 v1 v2 v3 W) (hC : ∀ q v W w2, C q v W → Below W.heap.size W w2 → C q v w2) :
  PutS C base vr l t b0 b1 true false false v0 v1 (.slice (some ⟨W.heap.size, 0, none⟩) 1 1) v3 (W.alloc (.cells #[.string t] 9)) :=
 ⟨hC _ _ _ _ h.s bAl, h.r0, fun e1 e2 => own_step (h.r1 e1 e2) bAl, fun _ => ⟨_, rfl, fun _ => blk_new W _⟩, (fun e => by cases e), h.n1, fun _ => rfl, (fun e => by cases e), fun _ => rfl, Nat.le_trans h.hb bAl.size⟩
theorem str1 (t : ByteArray) : ∀ u ∈ [Value.string t], u.oneCell' = true := by
 intro u hu
 rw [List.mem_singleton.1 hu]; rfl
theorem PutS.app {o : Oper} {a : Act} {K : Act → World → Prop} {Q : Exit → Act → World → Prop}
  (h : PutS C base vr l t b0 true true false false v0 v1 v2 v3 W) (hC : ∀ (v : Value) (W w2 : World) (u : Value), C false v W → W.grownBy w2 u.ownBlock → (∀ k, u.ownBlock = some k → base ≤ k ∧ ∃ cs, W.heap[k]? = some (.cells cs 9 (0, 0))) → ∀ v', C false v' w2) (hl : l.length ≤ 1000000)
  (s p : Operand) (ho : o.op = .call { callee := .builtin .append, args := #[s, p], argTypes := #[47, 47] }) (hs : a.eval s = v1) (hp : a.eval p = v2)
  (hK : ∀ v' W', PutS C base vr l t b0 true true true false v0 v1 v2 v' W' → K (a.put o.dst v') W') : o.wp Tryz.prog a W K Q := by
 obtain ⟨i0, hi, hz0, hz1, hz2⟩ := info_parts infoS'
 obtain ⟨g, rfl, hg⟩ := h.r2 rfl
 have hg2 := hg rfl
 have hown := h.r1 rfl rfl
 refine wp_app (P := Tryz.prog) W s p 47 ho base 9 i0 (.string ⟨#[]⟩) 1 16 Tryz.underlying47 hi hz0 hz1 hz2 rfl (by decide) v1 l.length (l.map Value.string) hs hown (some ⟨g, 0, none⟩) 1 1 [.string t] hp rfl (fun _ => ⟨g, 0, rfl, fun j u hu => ?_⟩) (str1 t) (by unfold maxLen; omega) (by omega) h.hb fun v' W' q1 q2 q3 => hK v' W' ?_
 ·have hj : j = 0 := by
   have := (List.getElem?_eq_some_iff.1 hu).1
   simpa using this
  subst hj
  simp at hu
  rw [← hu]
  exact blk_cell hg2 rfl
 ·refine ⟨hC _ _ _ _ h.s q2 (fun k hk => own_typed hown hk) _, h.r0, (fun _ e => by cases e), (fun _ => ⟨g, rfl, (fun e => by cases e)⟩), (fun _ => ?_), h.n1, (fun e => by cases e), (fun e => by cases e), (fun e => by cases e), Nat.le_trans h.hb q2.size⟩
  rw [List.length_append, List.map_append]
  exact q1
end
theorem SRow.setB {T : TypeId} {B o : Nat} {v u : Value} {l : List ByteArray} {W : World} {cs : Array Value} (h : SRow v l W) (hc : W.heap[B]? = some (.cells cs T (0, 0))) (hT : T ≠ 9) : SRow v l (W.setCell ⟨B, o, none⟩ u) := h.keep fun b cs2 fr e => by
 have hne : b ≠ B := fun c => by
  subst c
  rw [hc] at e
  simp at e
  exact hT e.2.1
 exact Below.heap_setCell _ _ _ _ hne
theorem AddC.rowSet {T : TypeId} {B off o : Nat} {name : ByteArray} {w W : World} {be : Nat} {e : Evt} {x : LifeS} {vm vo v u : Value} {l : List ByteArray} (h : AddC T B off name w be e x vm vo W) (hT : T ≠ 9) (hr : SRow v l W) : SRow v l (W.setCell ⟨B, o, none⟩ u) := by
 obtain ⟨cs, h1, -⟩ := h.blk
 exact hr.setB h1 hT
structure NewS (C : Bool → Value → World → Prop) (N : Nat) (vr : Value) (l : List ByteArray) (b0 b1 b2 : Bool) (v0 v1 : Value) (W : World) : Prop where
 s : C b2 v1 W
 r0 : b0 = true → v0 = vr
 r1 : b1 = true → SRowF N v1 l W
 n1 : b0 = false → b1 = false
 n2 : b1 = false → b2 = false
set_option maxHeartbeats 4000000 in
set_option maxRecDepth 20000 in
theorem add7_any {T : TypeId} {B off : Nat} {name : ByteArray} {x : LifeS} {vm vo : Value} {w : World} (hT : T ≠ 9) (h : LifeAt T B off name x vm vo w) (hB : LifeB x) (t a b : Int) (nm ot : ByteArray) (hl : x.ms.length ≤ 100000 ∧ x.os.length ≤ 100000) :
  Calls Tryz.prog 46 #[.pointer (some ⟨B, off, none⟩), .agg #[.int .i64 7, .int .i64 t, .int .i64 a, .int .i64 b, .string nm, .string ot]] w fun en w' => en = .returned (.tuple #[]) ∧ ∃ vm' vo', LifeF w T B off name (x.add name (7, t, a, b, nm, ot)) vm vo vm' vo' w' ∧ OnlyB T B off 18 w w' := by
 have HL : Hid (x.ms.length ≤ 1000000 ∧ x.os.length ≤ 1000000) := ⟨by omega, by omega⟩
 clear hl
 have A0 := Lib.hid (add_start h 7 t a b nm ot)
 have HR := Lib.hid (And.intro h.ms h.os)
 have HB := Lib.hid hB
 have hn := hB.n
 have hw1 : IntKind.i64.wrap ((x.n : Int) + 1) = (x.n : Int) + 1 := Go.IntWalk.i64_in _ ⟨by omega, by omega⟩
 clear h hB hn
 go_enter Tryz.func46, Tryz.ntmps46
 go_upto_region 1 with fail
 generalize (w.alloc _) = W0 at *
 have c1 := A0.out.cell (j := 1) rfl
 have f1 := A0.out.free 1
 have lB := A0.out.lt
 go_upto_region 2 with fail
 have A1 : Hid (AddC T B off name w w.heap.size (7, t, a, b, nm, ot) {x with n := x.n + 1} vm vo (W0.setCell ⟨B, off + 1, none⟩ (.int .i64 ((x.n : Int) + 1)))) := A0.out.set (j := 1) (.int .i64 ((x.n : Int) + 1)) (by decide) rfl
 generalize (W0.setCell ⟨B, off + 1, none⟩ _) = W1 at *
 clear A0 c1 f1 lB hw1
 obtain ⟨e0, e1, e2, e3, e4, e5, el⟩ := A1.out.ev
 have c2 := A1.out.cell (j := 2) rfl
 have f2 := A1.out.free 2
 have lB := A1.out.lt
 go_upto_region 3 with fail
 have A2 : Hid (AddC T B off name w w.heap.size (7, t, a, b, nm, ot) {x with n := x.n + 1, at_ := t} vm vo (W1.setCell ⟨B, off + 2, none⟩ (.int .i64 t))) := A1.out.set (j := 2) (.int .i64 t) (by decide) rfl
 generalize (W1.setCell ⟨B, off + 2, none⟩ _) = W2 at *
 clear A1 c2 f2 lB e0 e1 e2 e3 e4 e5 el
 obtain ⟨e0, e1, e2, e3, e4, e5, el⟩ := A2.out.ev
 have lB := A2.out.lt
 go_upto_region 25 with fail
 refine region_all 13 14 158 [(4, 133), (5, 134), (8, 137), (9, 138), (12, 162)] [(none, []), (none, []), (none, []), (none, []), (some 0, []), (some 1, [0]), (none, []), (none, []), (some 2, []), (some 3, [1, 2]), (none, []), (none, []), (some 4, [3])] [(129, (.pointer (some ⟨B, off, none⟩))), (130, (.pointer (some ⟨B, off, none⟩))), (131, (.pointer (some ⟨B, off, none⟩))), (132, (.pointer (some ⟨B, off + 10, none⟩))), (135, (.pointer (some ⟨w.heap.size, 4, none⟩))), (136, (.string nm)), (139, (.pointer (some ⟨B, off, none⟩))), (140, (.pointer (some ⟨B, off + 10, none⟩)))] (fun bsE vsE W => PutS (fun q v W => AddC T B off name w w.heap.size (7, t, a, b, nm, ot) (bif q then {x with n := x.n + 1, at_ := t, os := x.os ++ [nm]} else {x with n := x.n + 1, at_ := t}) vm (bif q then v else vo) W) w.heap.size vo x.os nm (bsE.getD 0 false) (bsE.getD 1 false) (bsE.getD 2 false) (bsE.getD 3 false) (bsE.getD 4 false) (vsE.getD 0 undef) (vsE.getD 1 undef) (vsE.getD 2 undef) (vsE.getD 3 undef) W) (by kernel_rfl) (by kernel_rfl) rfl rfl (by kernel_rfl) (by rfl) ?h0 ?each ?done
 case h0 =>
  intro vsE hlv
  obtain ⟨v0, v1, v2, v3, v4, rfl⟩ := ll5 hlv
  exact ⟨A2.out.step (Below.refl _ _).drew, (fun e => by cases e), (fun e => by cases e), (fun e => by cases e), (fun e => by cases e), (fun _ => rfl), (fun _ => rfl), (fun _ => rfl), (fun _ => rfl), A2.out.only.size⟩
 case each =>
  simp only [AllE]
  refine ⟨⟨129, (.pointer (some ⟨B, off, none⟩)), rfl, by kernel_rfl, ?_⟩, ⟨130, (.pointer (some ⟨B, off, none⟩)), rfl, by kernel_rfl, ?_⟩, ⟨131, (.pointer (some ⟨B, off, none⟩)), rfl, by kernel_rfl, ?_⟩, ⟨132, (.pointer (some ⟨B, off + 10, none⟩)), rfl, by kernel_rfl, ?_⟩, Or.inl ⟨133, rfl, ?q1_4⟩, Or.inl ⟨134, rfl, ?q1_5⟩, ⟨135, (.pointer (some ⟨w.heap.size, 4, none⟩)), rfl, by kernel_rfl, ?_⟩, ⟨136, (.string nm), rfl, by kernel_rfl, ?_⟩, Or.inl ⟨137, rfl, ?q1_8⟩, Or.inl ⟨138, rfl, ?q1_9⟩, ⟨139, (.pointer (some ⟨B, off, none⟩)), rfl, by kernel_rfl, ?_⟩, ⟨140, (.pointer (some ⟨B, off + 10, none⟩)), rfl, by kernel_rfl, ?_⟩, Or.inr ⟨rfl, ?q1_12⟩, trivial⟩
  case q1_4 =>
   intro bsE vsE W hlb hlv hnd hbk h
   obtain ⟨b0, b1, b2, b3, b4, rfl⟩ := ll5 hlb
   obtain ⟨v0, v1, v2, v3, v4, rfl⟩ := ll5 hlv
   obtain rfl : b0 = false := hbk
   replace h : PutS (fun q v W => AddC T B off name w w.heap.size (7, t, a, b, nm, ot) (bif q then {x with n := x.n + 1, at_ := t, os := x.os ++ [nm]} else {x with n := x.n + 1, at_ := t}) vm (bif q then v else vo) W) w.heap.size vo x.os nm false b1 b2 b3 b4 v0 v1 v2 v3 W := h
   clear hnd
   have HST := Lib.hid h
   obtain rfl := h.n1 rfl; obtain rfl := h.n2 rfl; obtain rfl := h.n4 rfl; have c := h.s.cell (j := 10) rfl; have lB := h.s.lt
   intro K Q hK
   simp only [putE, updAll, Act.put, sl1, sl2, sl3, sl4] at hK ⊢
   go_wp2_with fail
   all_goals (have hN : PutS (fun q v W => AddC T B off name w w.heap.size (7, t, a, b, nm, ot) (bif q then {x with n := x.n + 1, at_ := t, os := x.os ++ [nm]} else {x with n := x.n + 1, at_ := t}) vm (bif q then v else vo) W) w.heap.size vo x.os nm true false b2 false false vo v1 v2 v3 W := ⟨h.s, fun _ => rfl, h.r1, h.r2, h.r3, (fun e => by cases e), h.n2, h.n3, h.n4, h.hb⟩)
   all_goals (first | exact hK _ _ hN | exact hN)
  case q1_5 =>
   intro bsE vsE W hlb hlv hnd hbk h
   obtain ⟨b0, b1, b2, b3, b4, rfl⟩ := ll5 hlb
   obtain ⟨v0, v1, v2, v3, v4, rfl⟩ := ll5 hlv
   obtain rfl : b0 = true := hnd 0 (by simp)
   obtain rfl : b1 = false := hbk
   replace h : PutS (fun q v W => AddC T B off name w w.heap.size (7, t, a, b, nm, ot) (bif q then {x with n := x.n + 1, at_ := t, os := x.os ++ [nm]} else {x with n := x.n + 1, at_ := t}) vm (bif q then v else vo) W) w.heap.size vo x.os nm true false b2 b3 b4 v0 v1 v2 v3 W := h
   clear hnd
   have HST := Lib.hid h
   obtain rfl := h.n2 rfl; obtain rfl := h.n4 rfl; obtain rfl := h.r0 rfl; have CC := Lib.hid (clone_any (HR.out.2.only h.s.only hT) HL.out.2)
   intro K Q hK
   simp only [putE, updAll, Act.put, sl1, sl2, sl3, sl4] at hK ⊢
   go_wp2_with (go_at_call 71; refine CC.out.mono ?_; rintro e w7 ⟨v7, rfl, ho7, hb7⟩; have hN := h.clone (fun q v W w2 h hb => AddC.step h hb) ho7 hb7)
   all_goals (first | exact hK _ _ hN | exact hN)
  case q1_8 =>
   intro bsE vsE W hlb hlv hnd hbk h
   obtain ⟨b0, b1, b2, b3, b4, rfl⟩ := ll5 hlb
   obtain ⟨v0, v1, v2, v3, v4, rfl⟩ := ll5 hlv
   obtain rfl : b2 = false := hbk
   replace h : PutS (fun q v W => AddC T B off name w w.heap.size (7, t, a, b, nm, ot) (bif q then {x with n := x.n + 1, at_ := t, os := x.os ++ [nm]} else {x with n := x.n + 1, at_ := t}) vm (bif q then v else vo) W) w.heap.size vo x.os nm b0 b1 false b3 b4 v0 v1 v2 v3 W := h
   clear hnd
   have HST := Lib.hid h
   obtain rfl := h.n3 rfl; obtain rfl := h.n4 rfl
   intro K Q hK
   simp only [putE, updAll, Act.put, sl1, sl2, sl3, sl4] at hK ⊢
   go_wp2_with fail
   all_goals (have hN := h.mk2 (fun q v W w2 h hb => AddC.step h hb))
   all_goals (first | exact hK _ _ hN | exact hN)
  case q1_9 =>
   intro bsE vsE W hlb hlv hnd hbk h
   obtain ⟨b0, b1, b2, b3, b4, rfl⟩ := ll5 hlb
   obtain ⟨v0, v1, v2, v3, v4, rfl⟩ := ll5 hlv
   obtain rfl : b1 = true := hnd 1 (by simp)
   obtain rfl : b2 = true := hnd 2 (by simp)
   obtain rfl : b3 = false := hbk
   replace h : PutS (fun q v W => AddC T B off name w w.heap.size (7, t, a, b, nm, ot) (bif q then {x with n := x.n + 1, at_ := t, os := x.os ++ [nm]} else {x with n := x.n + 1, at_ := t}) vm (bif q then v else vo) W) w.heap.size vo x.os nm b0 true true false b4 v0 v1 v2 v3 W := h
   clear hnd
   have HST := Lib.hid h
   obtain rfl := h.n4 rfl
   intro K Q hK
   simp only [putE, updAll, Act.put, sl1, sl2, sl3, sl4] at hK ⊢
   exact h.app (fun v W w2 u h hg hu v' => AddC.grownS h hg hu) HL.out.2 (.tmp 134) (.tmp 137) rfl rfl rfl hK
  case q1_12 =>
   intro bsE vsE W hlb hlv hnd hbk h
   obtain ⟨b0, b1, b2, b3, b4, rfl⟩ := ll5 hlb
   obtain ⟨v0, v1, v2, v3, v4, rfl⟩ := ll5 hlv
   obtain rfl : b3 = true := hnd 3 (by simp)
   obtain rfl : b4 = false := hbk
   replace h : PutS (fun q v W => AddC T B off name w w.heap.size (7, t, a, b, nm, ot) (bif q then {x with n := x.n + 1, at_ := t, os := x.os ++ [nm]} else {x with n := x.n + 1, at_ := t}) vm (bif q then v else vo) W) w.heap.size vo x.os nm b0 b1 b2 true false v0 v1 v2 v3 W := h
   clear hnd
   have HST := Lib.hid h
   obtain ⟨a9, c9, e9, -⟩ := Rw.Own.get (r := ⟨9, 1, _, (x.os ++ [nm]).length, (x.os ++ [nm]).map Value.string⟩) (h.r3 rfl); dsimp only at e9; rw [List.length_append, List.length_singleton] at e9; subst e9; have c := h.s.cell (j := 10) rfl; have f := h.s.free 10; have lB := h.s.lt
   intro K Q hK
   simp only [putE, updAll, Act.put, sl1, sl2, sl3, sl4] at hK ⊢
   go_wp2_with fail
   all_goals (have hN : PutS (fun q v W => AddC T B off name w w.heap.size (7, t, a, b, nm, ot) (bif q then {x with n := x.n + 1, at_ := t, os := x.os ++ [nm]} else {x with n := x.n + 1, at_ := t}) vm (bif q then v else vo) W) w.heap.size vo x.os nm b0 b1 b2 true true v0 v1 v2 (.slice a9 (x.os.length + 1) c9) (W.setCell ⟨B, off + 10, none⟩ (.slice a9 (x.os.length + 1) c9)) := ⟨AddC.set h.s (j := 10) (.slice a9 _ c9) (by decide) rfl, h.r0, (fun _ e => by cases e), (fun e => by obtain ⟨g, q1, q2⟩ := h.r2 e; exact ⟨g, q1, (fun e => by cases e)⟩), (fun e => ownsRow_setCell_below (h.r3 rfl) (show B < w.heap.size from h.s.only.lt) _), h.n1, (fun e => absurd (h.n2 e) (by decide)), (fun e => absurd (h.n3 e) (by decide)), (fun e => by cases e), (by simpa using h.hb)⟩)
   all_goals (first | exact hK _ hN | exact hN)
  all_goals
   intro bsE vsE W hlb hlv hnd h
   obtain ⟨b0, b1, b2, b3, b4, rfl⟩ := ll5 hlb
   obtain ⟨v0, v1, v2, v3, v4, rfl⟩ := ll5 hlv
   replace h : PutS (fun q v W => AddC T B off name w w.heap.size (7, t, a, b, nm, ot) (bif q then {x with n := x.n + 1, at_ := t, os := x.os ++ [nm]} else {x with n := x.n + 1, at_ := t}) vm (bif q then v else vo) W) w.heap.size vo x.os nm b0 b1 b2 b3 b4 v0 v1 v2 v3 W := h
   clear hnd
   have HST := Lib.hid h
   have lB := h.s.lt; obtain ⟨e0, e1, e2, e3, e4, e5, el⟩ := h.s.ev
   intro K Q hK
   simp only [putE, updAll, Act.put, sl1, sl2, sl3, sl4] at hK ⊢
   go_wp2_with (fail)
   all_goals (first | exact hK _ (by first | exact h | exact h.step (by repeat' (first | exact Below.refl _ _ | apply bDrewN | apply bDrew))) | exact (by first | exact h | exact h.step (by repeat' (first | exact Below.refl _ _ | apply bDrewN | apply bDrew))))
 case done =>
  intro vsE W hlv h
  obtain ⟨v0, v1, v2, v3, v4, rfl⟩ := ll5 hlv
  replace h : PutS (fun q v W => AddC T B off name w w.heap.size (7, t, a, b, nm, ot) (bif q then {x with n := x.n + 1, at_ := t, os := x.os ++ [nm]} else {x with n := x.n + 1, at_ := t}) vm (bif q then v else vo) W) w.heap.size vo x.os nm true true true true true v0 v1 v2 v3 W := h
  have HST := Lib.hid h
  have A3 : Hid (AddC T B off name w w.heap.size (7, t, a, b, nm, ot) {x with n := x.n + 1, at_ := t, os := x.os ++ [nm]} vm v3 W) := h.s
  have HO := Lib.hid (h.r3 rfl)
  clear h HST A2 e0 e1 e2 e3 e4 e5 el lB
  simp only [putE, updAll, Act.put, sl1, sl2, sl3, sl4]
  go_wp2_with fail
  refine bodyPost_end (results_none rfl _ _ _) rfl ?_
  first | exact ⟨rfl, ⟨vm, v3, ⟨A3.out.done (HR.out.1.only A3.out.only hT) (SRow.of_own HO.out), Or.inl rfl, NewV.of_own HO.out⟩⟩, A3.out.only⟩ | exact ⟨rfl, vm, v3, ⟨A3.out.done (HR.out.1.only A3.out.only hT) (SRow.of_own HO.out), Or.inl rfl, NewV.of_own HO.out⟩, A3.out.only⟩
set_option maxHeartbeats 4000000 in
set_option maxRecDepth 20000 in
theorem add5_any {T : TypeId} {B off : Nat} {name : ByteArray} {x : LifeS} {vm vo : Value} {w : World} (hT : T ≠ 9) (h : LifeAt T B off name x vm vo w) (hB : LifeB x) (t a b : Int) (nm ot : ByteArray) (hl : x.ms.length ≤ 100000 ∧ x.os.length ≤ 100000) :
  Calls Tryz.prog 46 #[.pointer (some ⟨B, off, none⟩), .agg #[.int .i64 5, .int .i64 t, .int .i64 a, .int .i64 b, .string nm, .string ot]] w fun en w' => en = .returned (.tuple #[]) ∧ ∃ vm' vo', LifeF w T B off name (x.add name (5, t, a, b, nm, ot)) vm vo vm' vo' w' ∧ OnlyB T B off 18 w w' := by
 have HL : Hid (x.ms.length ≤ 1000000 ∧ x.os.length ≤ 1000000) := ⟨by omega, by omega⟩
 clear hl
 have A0 := Lib.hid (add_start h 5 t a b nm ot)
 have HR := Lib.hid (And.intro h.ms h.os)
 have HB := Lib.hid hB
 have hn := hB.n
 have hw1 : IntKind.i64.wrap ((x.n : Int) + 1) = (x.n : Int) + 1 := Go.IntWalk.i64_in _ ⟨by omega, by omega⟩
 clear h hB hn
 go_enter Tryz.func46, Tryz.ntmps46
 go_upto_region 1 with fail
 generalize (w.alloc _) = W0 at *
 have c1 := A0.out.cell (j := 1) rfl
 have f1 := A0.out.free 1
 have lB := A0.out.lt
 go_upto_region 2 with fail
 have A1 : Hid (AddC T B off name w w.heap.size (5, t, a, b, nm, ot) {x with n := x.n + 1} vm vo (W0.setCell ⟨B, off + 1, none⟩ (.int .i64 ((x.n : Int) + 1)))) := A0.out.set (j := 1) (.int .i64 ((x.n : Int) + 1)) (by decide) rfl
 generalize (W0.setCell ⟨B, off + 1, none⟩ _) = W1 at *
 clear A0 c1 f1 lB hw1
 obtain ⟨e0, e1, e2, e3, e4, e5, el⟩ := A1.out.ev
 have c2 := A1.out.cell (j := 2) rfl
 have f2 := A1.out.free 2
 have lB := A1.out.lt
 go_upto_region 3 with fail
 have A2 : Hid (AddC T B off name w w.heap.size (5, t, a, b, nm, ot) {x with n := x.n + 1, at_ := t} vm vo (W1.setCell ⟨B, off + 2, none⟩ (.int .i64 t))) := A1.out.set (j := 2) (.int .i64 t) (by decide) rfl
 generalize (W1.setCell ⟨B, off + 2, none⟩ _) = W2 at *
 clear A1 c2 f2 lB e0 e1 e2 e3 e4 e5 el
 obtain ⟨e0, e1, e2, e3, e4, e5, el⟩ := A2.out.ev
 have lB := A2.out.lt
 go_upto_region 19 with fail
 refine region_all 13 14 158 [(4, 93), (5, 94), (8, 97), (9, 98), (12, 162)] [(none, []), (none, []), (none, []), (none, []), (some 0, []), (some 1, [0]), (none, []), (none, []), (some 2, []), (some 3, [1, 2]), (none, []), (none, []), (some 4, [3])] [(89, (.pointer (some ⟨B, off, none⟩))), (90, (.pointer (some ⟨B, off, none⟩))), (91, (.pointer (some ⟨B, off, none⟩))), (92, (.pointer (some ⟨B, off + 9, none⟩))), (95, (.pointer (some ⟨w.heap.size, 4, none⟩))), (96, (.string nm)), (99, (.pointer (some ⟨B, off, none⟩))), (100, (.pointer (some ⟨B, off + 9, none⟩)))] (fun bsE vsE W => PutS (fun q v W => AddC T B off name w w.heap.size (5, t, a, b, nm, ot) (bif q then {x with n := x.n + 1, at_ := t, ms := x.ms ++ [nm]} else {x with n := x.n + 1, at_ := t}) (bif q then v else vm) vo W) w.heap.size vm x.ms nm (bsE.getD 0 false) (bsE.getD 1 false) (bsE.getD 2 false) (bsE.getD 3 false) (bsE.getD 4 false) (vsE.getD 0 undef) (vsE.getD 1 undef) (vsE.getD 2 undef) (vsE.getD 3 undef) W) (by kernel_rfl) (by kernel_rfl) rfl rfl (by kernel_rfl) (by rfl) ?h0 ?each ?done
 case h0 =>
  intro vsE hlv
  obtain ⟨v0, v1, v2, v3, v4, rfl⟩ := ll5 hlv
  exact ⟨A2.out.step (Below.refl _ _).drew, (fun e => by cases e), (fun e => by cases e), (fun e => by cases e), (fun e => by cases e), (fun _ => rfl), (fun _ => rfl), (fun _ => rfl), (fun _ => rfl), A2.out.only.size⟩
 case each =>
  simp only [AllE]
  refine ⟨⟨89, (.pointer (some ⟨B, off, none⟩)), rfl, by kernel_rfl, ?_⟩, ⟨90, (.pointer (some ⟨B, off, none⟩)), rfl, by kernel_rfl, ?_⟩, ⟨91, (.pointer (some ⟨B, off, none⟩)), rfl, by kernel_rfl, ?_⟩, ⟨92, (.pointer (some ⟨B, off + 9, none⟩)), rfl, by kernel_rfl, ?_⟩, Or.inl ⟨93, rfl, ?q2_4⟩, Or.inl ⟨94, rfl, ?q2_5⟩, ⟨95, (.pointer (some ⟨w.heap.size, 4, none⟩)), rfl, by kernel_rfl, ?_⟩, ⟨96, (.string nm), rfl, by kernel_rfl, ?_⟩, Or.inl ⟨97, rfl, ?q2_8⟩, Or.inl ⟨98, rfl, ?q2_9⟩, ⟨99, (.pointer (some ⟨B, off, none⟩)), rfl, by kernel_rfl, ?_⟩, ⟨100, (.pointer (some ⟨B, off + 9, none⟩)), rfl, by kernel_rfl, ?_⟩, Or.inr ⟨rfl, ?q2_12⟩, trivial⟩
  case q2_4 =>
   intro bsE vsE W hlb hlv hnd hbk h
   obtain ⟨b0, b1, b2, b3, b4, rfl⟩ := ll5 hlb
   obtain ⟨v0, v1, v2, v3, v4, rfl⟩ := ll5 hlv
   obtain rfl : b0 = false := hbk
   replace h : PutS (fun q v W => AddC T B off name w w.heap.size (5, t, a, b, nm, ot) (bif q then {x with n := x.n + 1, at_ := t, ms := x.ms ++ [nm]} else {x with n := x.n + 1, at_ := t}) (bif q then v else vm) vo W) w.heap.size vm x.ms nm false b1 b2 b3 b4 v0 v1 v2 v3 W := h
   clear hnd
   have HST := Lib.hid h
   obtain rfl := h.n1 rfl; obtain rfl := h.n2 rfl; obtain rfl := h.n4 rfl; have c := h.s.cell (j := 9) rfl; have lB := h.s.lt
   intro K Q hK
   simp only [putE, updAll, Act.put, sl1, sl2, sl3, sl4] at hK ⊢
   go_wp2_with fail
   all_goals (have hN : PutS (fun q v W => AddC T B off name w w.heap.size (5, t, a, b, nm, ot) (bif q then {x with n := x.n + 1, at_ := t, ms := x.ms ++ [nm]} else {x with n := x.n + 1, at_ := t}) (bif q then v else vm) vo W) w.heap.size vm x.ms nm true false b2 false false vm v1 v2 v3 W := ⟨h.s, fun _ => rfl, h.r1, h.r2, h.r3, (fun e => by cases e), h.n2, h.n3, h.n4, h.hb⟩)
   all_goals (first | exact hK _ _ hN | exact hN)
  case q2_5 =>
   intro bsE vsE W hlb hlv hnd hbk h
   obtain ⟨b0, b1, b2, b3, b4, rfl⟩ := ll5 hlb
   obtain ⟨v0, v1, v2, v3, v4, rfl⟩ := ll5 hlv
   obtain rfl : b0 = true := hnd 0 (by simp)
   obtain rfl : b1 = false := hbk
   replace h : PutS (fun q v W => AddC T B off name w w.heap.size (5, t, a, b, nm, ot) (bif q then {x with n := x.n + 1, at_ := t, ms := x.ms ++ [nm]} else {x with n := x.n + 1, at_ := t}) (bif q then v else vm) vo W) w.heap.size vm x.ms nm true false b2 b3 b4 v0 v1 v2 v3 W := h
   clear hnd
   have HST := Lib.hid h
   obtain rfl := h.n2 rfl; obtain rfl := h.n4 rfl; obtain rfl := h.r0 rfl; have CC := Lib.hid (clone_any (HR.out.1.only h.s.only hT) HL.out.1)
   intro K Q hK
   simp only [putE, updAll, Act.put, sl1, sl2, sl3, sl4] at hK ⊢
   go_wp2_with (go_at_call 71; refine CC.out.mono ?_; rintro e w7 ⟨v7, rfl, ho7, hb7⟩; have hN := h.clone (fun q v W w2 h hb => AddC.step h hb) ho7 hb7)
   all_goals (first | exact hK _ _ hN | exact hN)
  case q2_8 =>
   intro bsE vsE W hlb hlv hnd hbk h
   obtain ⟨b0, b1, b2, b3, b4, rfl⟩ := ll5 hlb
   obtain ⟨v0, v1, v2, v3, v4, rfl⟩ := ll5 hlv
   obtain rfl : b2 = false := hbk
   replace h : PutS (fun q v W => AddC T B off name w w.heap.size (5, t, a, b, nm, ot) (bif q then {x with n := x.n + 1, at_ := t, ms := x.ms ++ [nm]} else {x with n := x.n + 1, at_ := t}) (bif q then v else vm) vo W) w.heap.size vm x.ms nm b0 b1 false b3 b4 v0 v1 v2 v3 W := h
   clear hnd
   have HST := Lib.hid h
   obtain rfl := h.n3 rfl; obtain rfl := h.n4 rfl
   intro K Q hK
   simp only [putE, updAll, Act.put, sl1, sl2, sl3, sl4] at hK ⊢
   go_wp2_with fail
   all_goals (have hN := h.mk2 (fun q v W w2 h hb => AddC.step h hb))
   all_goals (first | exact hK _ _ hN | exact hN)
  case q2_9 =>
   intro bsE vsE W hlb hlv hnd hbk h
   obtain ⟨b0, b1, b2, b3, b4, rfl⟩ := ll5 hlb
   obtain ⟨v0, v1, v2, v3, v4, rfl⟩ := ll5 hlv
   obtain rfl : b1 = true := hnd 1 (by simp)
   obtain rfl : b2 = true := hnd 2 (by simp)
   obtain rfl : b3 = false := hbk
   replace h : PutS (fun q v W => AddC T B off name w w.heap.size (5, t, a, b, nm, ot) (bif q then {x with n := x.n + 1, at_ := t, ms := x.ms ++ [nm]} else {x with n := x.n + 1, at_ := t}) (bif q then v else vm) vo W) w.heap.size vm x.ms nm b0 true true false b4 v0 v1 v2 v3 W := h
   clear hnd
   have HST := Lib.hid h
   obtain rfl := h.n4 rfl
   intro K Q hK
   simp only [putE, updAll, Act.put, sl1, sl2, sl3, sl4] at hK ⊢
   exact h.app (fun v W w2 u h hg hu v' => AddC.grownS h hg hu) HL.out.1 (.tmp 94) (.tmp 97) rfl rfl rfl hK
  case q2_12 =>
   intro bsE vsE W hlb hlv hnd hbk h
   obtain ⟨b0, b1, b2, b3, b4, rfl⟩ := ll5 hlb
   obtain ⟨v0, v1, v2, v3, v4, rfl⟩ := ll5 hlv
   obtain rfl : b3 = true := hnd 3 (by simp)
   obtain rfl : b4 = false := hbk
   replace h : PutS (fun q v W => AddC T B off name w w.heap.size (5, t, a, b, nm, ot) (bif q then {x with n := x.n + 1, at_ := t, ms := x.ms ++ [nm]} else {x with n := x.n + 1, at_ := t}) (bif q then v else vm) vo W) w.heap.size vm x.ms nm b0 b1 b2 true false v0 v1 v2 v3 W := h
   clear hnd
   have HST := Lib.hid h
   obtain ⟨a9, c9, e9, -⟩ := Rw.Own.get (r := ⟨9, 1, _, (x.ms ++ [nm]).length, (x.ms ++ [nm]).map Value.string⟩) (h.r3 rfl); dsimp only at e9; rw [List.length_append, List.length_singleton] at e9; subst e9; have c := h.s.cell (j := 9) rfl; have f := h.s.free 9; have lB := h.s.lt
   intro K Q hK
   simp only [putE, updAll, Act.put, sl1, sl2, sl3, sl4] at hK ⊢
   go_wp2_with fail
   all_goals (have hN : PutS (fun q v W => AddC T B off name w w.heap.size (5, t, a, b, nm, ot) (bif q then {x with n := x.n + 1, at_ := t, ms := x.ms ++ [nm]} else {x with n := x.n + 1, at_ := t}) (bif q then v else vm) vo W) w.heap.size vm x.ms nm b0 b1 b2 true true v0 v1 v2 (.slice a9 (x.ms.length + 1) c9) (W.setCell ⟨B, off + 9, none⟩ (.slice a9 (x.ms.length + 1) c9)) := ⟨AddC.set h.s (j := 9) (.slice a9 _ c9) (by decide) rfl, h.r0, (fun _ e => by cases e), (fun e => by obtain ⟨g, q1, q2⟩ := h.r2 e; exact ⟨g, q1, (fun e => by cases e)⟩), (fun e => ownsRow_setCell_below (h.r3 rfl) (show B < w.heap.size from h.s.only.lt) _), h.n1, (fun e => absurd (h.n2 e) (by decide)), (fun e => absurd (h.n3 e) (by decide)), (fun e => by cases e), (by simpa using h.hb)⟩)
   all_goals (first | exact hK _ hN | exact hN)
  all_goals
   intro bsE vsE W hlb hlv hnd h
   obtain ⟨b0, b1, b2, b3, b4, rfl⟩ := ll5 hlb
   obtain ⟨v0, v1, v2, v3, v4, rfl⟩ := ll5 hlv
   replace h : PutS (fun q v W => AddC T B off name w w.heap.size (5, t, a, b, nm, ot) (bif q then {x with n := x.n + 1, at_ := t, ms := x.ms ++ [nm]} else {x with n := x.n + 1, at_ := t}) (bif q then v else vm) vo W) w.heap.size vm x.ms nm b0 b1 b2 b3 b4 v0 v1 v2 v3 W := h
   clear hnd
   have HST := Lib.hid h
   have lB := h.s.lt; obtain ⟨e0, e1, e2, e3, e4, e5, el⟩ := h.s.ev
   intro K Q hK
   simp only [putE, updAll, Act.put, sl1, sl2, sl3, sl4] at hK ⊢
   go_wp2_with (fail)
   all_goals (first | exact hK _ (by first | exact h | exact h.step (by repeat' (first | exact Below.refl _ _ | apply bDrewN | apply bDrew))) | exact (by first | exact h | exact h.step (by repeat' (first | exact Below.refl _ _ | apply bDrewN | apply bDrew))))
 case done =>
  intro vsE W hlv h
  obtain ⟨v0, v1, v2, v3, v4, rfl⟩ := ll5 hlv
  replace h : PutS (fun q v W => AddC T B off name w w.heap.size (5, t, a, b, nm, ot) (bif q then {x with n := x.n + 1, at_ := t, ms := x.ms ++ [nm]} else {x with n := x.n + 1, at_ := t}) (bif q then v else vm) vo W) w.heap.size vm x.ms nm true true true true true v0 v1 v2 v3 W := h
  have HST := Lib.hid h
  have A3 : Hid (AddC T B off name w w.heap.size (5, t, a, b, nm, ot) {x with n := x.n + 1, at_ := t, ms := x.ms ++ [nm]} v3 vo W) := h.s
  have HO := Lib.hid (h.r3 rfl)
  clear h HST A2 e0 e1 e2 e3 e4 e5 el lB
  simp only [putE, updAll, Act.put, sl1, sl2, sl3, sl4]
  go_upto_region 20 with fail
  have c := A3.out.cell (j := 16) rfl
  have f := A3.out.free 16
  have lB := A3.out.lt
  have hmo := HB.out.mov
  have hw2 : IntKind.i64.wrap (x.mov + 1) = x.mov + 1 := Go.IntWalk.i64_in _ ⟨by omega, by omega⟩
  clear hmo
  go_wp2_with fail
  have A4 := Lib.hid (AddC.set (x' := {x with n := x.n + 1, at_ := t, ms := x.ms ++ [nm], mov := x.mov + 1}) (vm' := v3) (vo' := vo) A3.out (j := 16) (.int .i64 (x.mov + 1)) (by decide) rfl)
  have HO4 := Lib.hid (ownsRow_setCell_below (a := ⟨B, off + 16, none⟩) HO.out (show B < w.heap.size from A3.out.only.lt) (.int .i64 (x.mov + 1)))
  refine bodyPost_end (results_none rfl _ _ _) rfl ?_
  first | exact ⟨rfl, ⟨v3, vo, ⟨A4.out.done (SRow.of_own HO4.out) (HR.out.2.only A4.out.only hT), NewV.of_own HO4.out, Or.inl rfl⟩⟩, A4.out.only⟩ | exact ⟨rfl, v3, vo, ⟨A4.out.done (SRow.of_own HO4.out) (HR.out.2.only A4.out.only hT), NewV.of_own HO4.out, Or.inl rfl⟩, A4.out.only⟩
set_option maxHeartbeats 4000000 in
set_option maxRecDepth 20000 in
theorem add6_any {T : TypeId} {B off : Nat} {name : ByteArray} {x : LifeS} {vm vo : Value} {w : World} (hT : T ≠ 9) (h : LifeAt T B off name x vm vo w) (hB : LifeB x) (t a b : Int) (nm ot : ByteArray) (hl : x.ms.length ≤ 100000 ∧ x.os.length ≤ 100000) (hne : x.ms ≠ []) :
  Calls Tryz.prog 46 #[.pointer (some ⟨B, off, none⟩), .agg #[.int .i64 6, .int .i64 t, .int .i64 a, .int .i64 b, .string nm, .string ot]] w fun en w' => en = .returned (.tuple #[]) ∧ ∃ vm' vo', LifeF w T B off name (x.add name (6, t, a, b, nm, ot)) vm vo vm' vo' w' ∧ OnlyB T B off 18 w w' := by
 have HL : Hid (x.ms.length ≤ 1000000 ∧ x.os.length ≤ 1000000) := ⟨by omega, by omega⟩
 have HNE := Lib.hid hne
 clear hl hne
 have A0 := Lib.hid (add_start h 6 t a b nm ot)
 have HR := Lib.hid (And.intro h.ms h.os)
 have HB := Lib.hid hB
 have hn := hB.n
 have hw1 : IntKind.i64.wrap ((x.n : Int) + 1) = (x.n : Int) + 1 := Go.IntWalk.i64_in _ ⟨by omega, by omega⟩
 clear h hB hn
 go_enter Tryz.func46, Tryz.ntmps46
 go_upto_region 1 with fail
 generalize (w.alloc _) = W0 at *
 have c1 := A0.out.cell (j := 1) rfl
 have f1 := A0.out.free 1
 have lB := A0.out.lt
 go_upto_region 2 with fail
 have A1 : Hid (AddC T B off name w w.heap.size (6, t, a, b, nm, ot) {x with n := x.n + 1} vm vo (W0.setCell ⟨B, off + 1, none⟩ (.int .i64 ((x.n : Int) + 1)))) := A0.out.set (j := 1) (.int .i64 ((x.n : Int) + 1)) (by decide) rfl
 generalize (W0.setCell ⟨B, off + 1, none⟩ _) = W1 at *
 clear A0 c1 f1 lB hw1
 obtain ⟨e0, e1, e2, e3, e4, e5, el⟩ := A1.out.ev
 have c2 := A1.out.cell (j := 2) rfl
 have f2 := A1.out.free 2
 have lB := A1.out.lt
 go_upto_region 3 with fail
 have A2 : Hid (AddC T B off name w w.heap.size (6, t, a, b, nm, ot) {x with n := x.n + 1, at_ := t} vm vo (W1.setCell ⟨B, off + 2, none⟩ (.int .i64 t))) := A1.out.set (j := 2) (.int .i64 t) (by decide) rfl
 generalize (W1.setCell ⟨B, off + 2, none⟩ _) = W2 at *
 clear A1 c2 f2 lB e0 e1 e2 e3 e4 e5 el
 obtain ⟨e0, e1, e2, e3, e4, e5, el⟩ := A2.out.ev
 have lB := A2.out.lt
 go_upto_region 22 with fail
 refine region_all 11 14 158 [(4, 114), (7, 117), (10, 160)] [(none, []), (none, []), (none, []), (none, []), (some 0, []), (none, []), (none, []), (some 1, [0]), (none, []), (none, []), (some 2, [1])] [(110, (.pointer (some ⟨B, off, none⟩))), (111, (.pointer (some ⟨B, off, none⟩))), (112, (.pointer (some ⟨B, off, none⟩))), (113, (.pointer (some ⟨B, off + 9, none⟩))), (115, (.pointer (some ⟨w.heap.size, 4, none⟩))), (116, (.string nm)), (118, (.pointer (some ⟨B, off, none⟩))), (119, (.pointer (some ⟨B, off + 9, none⟩)))] (fun bsE vsE W => NewS (fun q v W => AddC T B off name w w.heap.size (6, t, a, b, nm, ot) (bif q then {x with n := x.n + 1, at_ := t, ms := dropT x.ms nm} else {x with n := x.n + 1, at_ := t}) (bif q then v else vm) vo W) w.heap.size vm (dropT x.ms nm) (bsE.getD 0 false) (bsE.getD 1 false) (bsE.getD 2 false) (vsE.getD 0 undef) (vsE.getD 1 undef) W) (by kernel_rfl) (by kernel_rfl) rfl rfl (by kernel_rfl) (by rfl) ?h0 ?each ?done
 case h0 =>
  intro vsE hlv
  obtain ⟨v0, v1, v2, rfl⟩ := ll3 hlv
  exact ⟨A2.out.step (Below.refl _ _).drew, (fun e => by cases e), (fun e => by cases e), (fun _ => rfl), (fun _ => rfl)⟩
 case each =>
  simp only [AllE]
  refine ⟨⟨110, (.pointer (some ⟨B, off, none⟩)), rfl, by kernel_rfl, ?_⟩, ⟨111, (.pointer (some ⟨B, off, none⟩)), rfl, by kernel_rfl, ?_⟩, ⟨112, (.pointer (some ⟨B, off, none⟩)), rfl, by kernel_rfl, ?_⟩, ⟨113, (.pointer (some ⟨B, off + 9, none⟩)), rfl, by kernel_rfl, ?_⟩, Or.inl ⟨114, rfl, ?q3_4⟩, ⟨115, (.pointer (some ⟨w.heap.size, 4, none⟩)), rfl, by kernel_rfl, ?_⟩, ⟨116, (.string nm), rfl, by kernel_rfl, ?_⟩, Or.inl ⟨117, rfl, ?q3_7⟩, ⟨118, (.pointer (some ⟨B, off, none⟩)), rfl, by kernel_rfl, ?_⟩, ⟨119, (.pointer (some ⟨B, off + 9, none⟩)), rfl, by kernel_rfl, ?_⟩, Or.inr ⟨rfl, ?q3_10⟩, trivial⟩
  case q3_4 =>
   intro bsE vsE W hlb hlv hnd hbk h
   obtain ⟨b0, b1, b2, rfl⟩ := ll3 hlb
   obtain ⟨v0, v1, v2, rfl⟩ := ll3 hlv
   obtain rfl : b0 = false := hbk
   replace h : NewS (fun q v W => AddC T B off name w w.heap.size (6, t, a, b, nm, ot) (bif q then {x with n := x.n + 1, at_ := t, ms := dropT x.ms nm} else {x with n := x.n + 1, at_ := t}) (bif q then v else vm) vo W) w.heap.size vm (dropT x.ms nm) false b1 b2 v0 v1 W := h
   clear hnd
   have HST := Lib.hid h
   obtain rfl := h.n1 rfl; obtain rfl := h.n2 rfl; have c := h.s.cell (j := 9) rfl; have lB := h.s.lt
   intro K Q hK
   simp only [putE, updAll, Act.put, sl1, sl2, sl3, sl4] at hK ⊢
   go_wp2_with fail
   all_goals (have hN : NewS (fun q v W => AddC T B off name w w.heap.size (6, t, a, b, nm, ot) (bif q then {x with n := x.n + 1, at_ := t, ms := dropT x.ms nm} else {x with n := x.n + 1, at_ := t}) (bif q then v else vm) vo W) w.heap.size vm (dropT x.ms nm) true false false vm v1 W := ⟨h.s, fun _ => rfl, h.r1, (fun e => by cases e), h.n2⟩)
   all_goals (first | exact hK _ _ hN | exact hN)
  case q3_7 =>
   intro bsE vsE W hlb hlv hnd hbk h
   obtain ⟨b0, b1, b2, rfl⟩ := ll3 hlb
   obtain ⟨v0, v1, v2, rfl⟩ := ll3 hlv
   obtain rfl : b0 = true := hnd 0 (by simp)
   obtain rfl : b1 = false := hbk
   replace h : NewS (fun q v W => AddC T B off name w w.heap.size (6, t, a, b, nm, ot) (bif q then {x with n := x.n + 1, at_ := t, ms := dropT x.ms nm} else {x with n := x.n + 1, at_ := t}) (bif q then v else vm) vo W) w.heap.size vm (dropT x.ms nm) true false b2 v0 v1 W := h
   clear hnd
   have HST := Lib.hid h
   obtain rfl := h.n2 rfl; have e9 := (h.r0 rfl).symm; subst e9; have CC := Lib.hid (without_any (HR.out.1.only h.s.only hT) HNE.out HL.out.1 nm)
   intro K Q hK
   simp only [putE, updAll, Act.put, sl1, sl2, sl3, sl4] at hK ⊢
   go_wp2_with (go_at_call 107; refine CC.out.mono ?_; rintro e w7 ⟨v7, rfl, ho7, hb7⟩; have hN : NewS (fun q v W => AddC T B off name w w.heap.size (6, t, a, b, nm, ot) (bif q then {x with n := x.n + 1, at_ := t, ms := dropT x.ms nm} else {x with n := x.n + 1, at_ := t}) (bif q then v else vm) vo W) w.heap.size vm (dropT x.ms nm) true true false vm v7 w7 := ⟨AddC.step h.s hb7, fun _ => rfl, fun _ => ⟨ho7.r, fun k hk => Nat.le_trans h.s.only.size (ho7.f k hk)⟩, (fun e => by cases e), (fun e => by cases e)⟩)
   all_goals (first | exact hK _ _ hN | exact hN)
  case q3_10 =>
   intro bsE vsE W hlb hlv hnd hbk h
   obtain ⟨b0, b1, b2, rfl⟩ := ll3 hlb
   obtain ⟨v0, v1, v2, rfl⟩ := ll3 hlv
   obtain rfl : b1 = true := hnd 1 (by simp)
   obtain rfl : b2 = false := hbk
   replace h : NewS (fun q v W => AddC T B off name w w.heap.size (6, t, a, b, nm, ot) (bif q then {x with n := x.n + 1, at_ := t, ms := dropT x.ms nm} else {x with n := x.n + 1, at_ := t}) (bif q then v else vm) vo W) w.heap.size vm (dropT x.ms nm) b0 true false v0 v1 W := h
   clear hnd
   have HST := Lib.hid h
   have hrow := h.r1 rfl; obtain ⟨a9, c9, e9, -⟩ := (h.r1 rfl).r; subst e9; have c := h.s.cell (j := 9) rfl; have f := h.s.free 9; have lB := h.s.lt
   intro K Q hK
   simp only [putE, updAll, Act.put, sl1, sl2, sl3, sl4] at hK ⊢
   go_wp2_with fail
   all_goals (have hN : NewS (fun q v W => AddC T B off name w w.heap.size (6, t, a, b, nm, ot) (bif q then {x with n := x.n + 1, at_ := t, ms := dropT x.ms nm} else {x with n := x.n + 1, at_ := t}) (bif q then v else vm) vo W) w.heap.size vm (dropT x.ms nm) b0 true true v0 (.slice a9 (dropT x.ms nm).length c9) (W.setCell ⟨B, off + 9, none⟩ (.slice a9 (dropT x.ms nm).length c9)) := ⟨AddC.set h.s (j := 9) (.slice a9 _ c9) (by decide) rfl, h.r0, (fun _ => ⟨AddC.rowSet h.s hT hrow.r, hrow.f⟩), h.n1, (fun e => by cases e)⟩)
   all_goals (first | exact hK _ hN | exact hN)
  all_goals
   intro bsE vsE W hlb hlv hnd h
   obtain ⟨b0, b1, b2, rfl⟩ := ll3 hlb
   obtain ⟨v0, v1, v2, rfl⟩ := ll3 hlv
   replace h : NewS (fun q v W => AddC T B off name w w.heap.size (6, t, a, b, nm, ot) (bif q then {x with n := x.n + 1, at_ := t, ms := dropT x.ms nm} else {x with n := x.n + 1, at_ := t}) (bif q then v else vm) vo W) w.heap.size vm (dropT x.ms nm) b0 b1 b2 v0 v1 W := h
   clear hnd
   have HST := Lib.hid h
   have lB := h.s.lt; obtain ⟨e0, e1, e2, e3, e4, e5, el⟩ := h.s.ev
   intro K Q hK
   simp only [putE, updAll, Act.put, sl1, sl2, sl3, sl4] at hK ⊢
   go_wp2_with (fail)
   all_goals (first | exact hK _ (by first | exact h | exact h.step (by repeat' (first | exact Below.refl _ _ | apply bDrewN | apply bDrew))) | exact (by first | exact h | exact h.step (by repeat' (first | exact Below.refl _ _ | apply bDrewN | apply bDrew))))
 case done =>
  intro vsE W hlv h
  obtain ⟨v0, v1, v2, rfl⟩ := ll3 hlv
  replace h : NewS (fun q v W => AddC T B off name w w.heap.size (6, t, a, b, nm, ot) (bif q then {x with n := x.n + 1, at_ := t, ms := dropT x.ms nm} else {x with n := x.n + 1, at_ := t}) (bif q then v else vm) vo W) w.heap.size vm (dropT x.ms nm) true true true v0 v1 W := h
  have HST := Lib.hid h
  have A3 : Hid (AddC T B off name w w.heap.size (6, t, a, b, nm, ot) {x with n := x.n + 1, at_ := t, ms := dropT x.ms nm} v1 vo W) := h.s
  have HO := Lib.hid (h.r1 rfl)
  clear h HST A2 e0 e1 e2 e3 e4 e5 el lB
  simp only [putE, updAll, Act.put, sl1, sl2, sl3, sl4]
  go_upto_region 23 with fail
  have c := A3.out.cell (j := 16) rfl
  have f := A3.out.free 16
  have lB := A3.out.lt
  have hmo := HB.out.mov
  have hw2 : IntKind.i64.wrap (x.mov + 1) = x.mov + 1 := Go.IntWalk.i64_in _ ⟨by omega, by omega⟩
  clear hmo
  go_wp2_with fail
  have A4 := Lib.hid (AddC.set (x' := {x with n := x.n + 1, at_ := t, ms := dropT x.ms nm, mov := x.mov + 1}) (vm' := v1) (vo' := vo) A3.out (j := 16) (.int .i64 (x.mov + 1)) (by decide) rfl)
  have HO4 := Lib.hid (SRowF.mk (AddC.rowSet (o := off + 16) (u := .int .i64 (x.mov + 1)) A3.out hT HO.out.r) HO.out.f)
  refine bodyPost_end (results_none rfl _ _ _) rfl ?_
  first | exact ⟨rfl, ⟨v1, vo, ⟨A4.out.done HO4.out.r (HR.out.2.only A4.out.only hT), Or.inr HO4.out.f, Or.inl rfl⟩⟩, A4.out.only⟩ | exact ⟨rfl, v1, vo, ⟨A4.out.done HO4.out.r (HR.out.2.only A4.out.only hT), Or.inr HO4.out.f, Or.inl rfl⟩, A4.out.only⟩
set_option maxHeartbeats 4000000 in
set_option maxRecDepth 20000 in
theorem add8_any {T : TypeId} {B off : Nat} {name : ByteArray} {x : LifeS} {vm vo : Value} {w : World} (hT : T ≠ 9) (h : LifeAt T B off name x vm vo w) (hB : LifeB x) (t a b : Int) (nm ot : ByteArray) (hl : x.ms.length ≤ 100000 ∧ x.os.length ≤ 100000) (hne : x.os ≠ []) :
  Calls Tryz.prog 46 #[.pointer (some ⟨B, off, none⟩), .agg #[.int .i64 8, .int .i64 t, .int .i64 a, .int .i64 b, .string nm, .string ot]] w fun en w' => en = .returned (.tuple #[]) ∧ ∃ vm' vo', LifeF w T B off name (x.add name (8, t, a, b, nm, ot)) vm vo vm' vo' w' ∧ OnlyB T B off 18 w w' := by
 have HL : Hid (x.ms.length ≤ 1000000 ∧ x.os.length ≤ 1000000) := ⟨by omega, by omega⟩
 have HNE := Lib.hid hne
 clear hl hne
 have A0 := Lib.hid (add_start h 8 t a b nm ot)
 have HR := Lib.hid (And.intro h.ms h.os)
 have HB := Lib.hid hB
 have hn := hB.n
 have hw1 : IntKind.i64.wrap ((x.n : Int) + 1) = (x.n : Int) + 1 := Go.IntWalk.i64_in _ ⟨by omega, by omega⟩
 clear h hB hn
 go_enter Tryz.func46, Tryz.ntmps46
 go_upto_region 1 with fail
 generalize (w.alloc _) = W0 at *
 have c1 := A0.out.cell (j := 1) rfl
 have f1 := A0.out.free 1
 have lB := A0.out.lt
 go_upto_region 2 with fail
 have A1 : Hid (AddC T B off name w w.heap.size (8, t, a, b, nm, ot) {x with n := x.n + 1} vm vo (W0.setCell ⟨B, off + 1, none⟩ (.int .i64 ((x.n : Int) + 1)))) := A0.out.set (j := 1) (.int .i64 ((x.n : Int) + 1)) (by decide) rfl
 generalize (W0.setCell ⟨B, off + 1, none⟩ _) = W1 at *
 clear A0 c1 f1 lB hw1
 obtain ⟨e0, e1, e2, e3, e4, e5, el⟩ := A1.out.ev
 have c2 := A1.out.cell (j := 2) rfl
 have f2 := A1.out.free 2
 have lB := A1.out.lt
 go_upto_region 3 with fail
 have A2 : Hid (AddC T B off name w w.heap.size (8, t, a, b, nm, ot) {x with n := x.n + 1, at_ := t} vm vo (W1.setCell ⟨B, off + 2, none⟩ (.int .i64 t))) := A1.out.set (j := 2) (.int .i64 t) (by decide) rfl
 generalize (W1.setCell ⟨B, off + 2, none⟩ _) = W2 at *
 clear A1 c2 f2 lB e0 e1 e2 e3 e4 e5 el
 obtain ⟨e0, e1, e2, e3, e4, e5, el⟩ := A2.out.ev
 have lB := A2.out.lt
 go_upto_region 27 with fail
 refine region_all 11 14 158 [(4, 147), (7, 150), (10, 160)] [(none, []), (none, []), (none, []), (none, []), (some 0, []), (none, []), (none, []), (some 1, [0]), (none, []), (none, []), (some 2, [1])] [(143, (.pointer (some ⟨B, off, none⟩))), (144, (.pointer (some ⟨B, off, none⟩))), (145, (.pointer (some ⟨B, off, none⟩))), (146, (.pointer (some ⟨B, off + 10, none⟩))), (148, (.pointer (some ⟨w.heap.size, 4, none⟩))), (149, (.string nm)), (151, (.pointer (some ⟨B, off, none⟩))), (152, (.pointer (some ⟨B, off + 10, none⟩)))] (fun bsE vsE W => NewS (fun q v W => AddC T B off name w w.heap.size (8, t, a, b, nm, ot) (bif q then {x with n := x.n + 1, at_ := t, os := dropT x.os nm} else {x with n := x.n + 1, at_ := t}) vm (bif q then v else vo) W) w.heap.size vo (dropT x.os nm) (bsE.getD 0 false) (bsE.getD 1 false) (bsE.getD 2 false) (vsE.getD 0 undef) (vsE.getD 1 undef) W) (by kernel_rfl) (by kernel_rfl) rfl rfl (by kernel_rfl) (by rfl) ?h0 ?each ?done
 case h0 =>
  intro vsE hlv
  obtain ⟨v0, v1, v2, rfl⟩ := ll3 hlv
  exact ⟨A2.out.step (Below.refl _ _).drew, (fun e => by cases e), (fun e => by cases e), (fun _ => rfl), (fun _ => rfl)⟩
 case each =>
  simp only [AllE]
  refine ⟨⟨143, (.pointer (some ⟨B, off, none⟩)), rfl, by kernel_rfl, ?_⟩, ⟨144, (.pointer (some ⟨B, off, none⟩)), rfl, by kernel_rfl, ?_⟩, ⟨145, (.pointer (some ⟨B, off, none⟩)), rfl, by kernel_rfl, ?_⟩, ⟨146, (.pointer (some ⟨B, off + 10, none⟩)), rfl, by kernel_rfl, ?_⟩, Or.inl ⟨147, rfl, ?q4_4⟩, ⟨148, (.pointer (some ⟨w.heap.size, 4, none⟩)), rfl, by kernel_rfl, ?_⟩, ⟨149, (.string nm), rfl, by kernel_rfl, ?_⟩, Or.inl ⟨150, rfl, ?q4_7⟩, ⟨151, (.pointer (some ⟨B, off, none⟩)), rfl, by kernel_rfl, ?_⟩, ⟨152, (.pointer (some ⟨B, off + 10, none⟩)), rfl, by kernel_rfl, ?_⟩, Or.inr ⟨rfl, ?q4_10⟩, trivial⟩
  case q4_4 =>
   intro bsE vsE W hlb hlv hnd hbk h
   obtain ⟨b0, b1, b2, rfl⟩ := ll3 hlb
   obtain ⟨v0, v1, v2, rfl⟩ := ll3 hlv
   obtain rfl : b0 = false := hbk
   replace h : NewS (fun q v W => AddC T B off name w w.heap.size (8, t, a, b, nm, ot) (bif q then {x with n := x.n + 1, at_ := t, os := dropT x.os nm} else {x with n := x.n + 1, at_ := t}) vm (bif q then v else vo) W) w.heap.size vo (dropT x.os nm) false b1 b2 v0 v1 W := h
   clear hnd
   have HST := Lib.hid h
   obtain rfl := h.n1 rfl; obtain rfl := h.n2 rfl; have c := h.s.cell (j := 10) rfl; have lB := h.s.lt
   intro K Q hK
   simp only [putE, updAll, Act.put, sl1, sl2, sl3, sl4] at hK ⊢
   go_wp2_with fail
   all_goals (have hN : NewS (fun q v W => AddC T B off name w w.heap.size (8, t, a, b, nm, ot) (bif q then {x with n := x.n + 1, at_ := t, os := dropT x.os nm} else {x with n := x.n + 1, at_ := t}) vm (bif q then v else vo) W) w.heap.size vo (dropT x.os nm) true false false vo v1 W := ⟨h.s, fun _ => rfl, h.r1, (fun e => by cases e), h.n2⟩)
   all_goals (first | exact hK _ _ hN | exact hN)
  case q4_7 =>
   intro bsE vsE W hlb hlv hnd hbk h
   obtain ⟨b0, b1, b2, rfl⟩ := ll3 hlb
   obtain ⟨v0, v1, v2, rfl⟩ := ll3 hlv
   obtain rfl : b0 = true := hnd 0 (by simp)
   obtain rfl : b1 = false := hbk
   replace h : NewS (fun q v W => AddC T B off name w w.heap.size (8, t, a, b, nm, ot) (bif q then {x with n := x.n + 1, at_ := t, os := dropT x.os nm} else {x with n := x.n + 1, at_ := t}) vm (bif q then v else vo) W) w.heap.size vo (dropT x.os nm) true false b2 v0 v1 W := h
   clear hnd
   have HST := Lib.hid h
   obtain rfl := h.n2 rfl; have e9 := (h.r0 rfl).symm; subst e9; have CC := Lib.hid (without_any (HR.out.2.only h.s.only hT) HNE.out HL.out.2 nm)
   intro K Q hK
   simp only [putE, updAll, Act.put, sl1, sl2, sl3, sl4] at hK ⊢
   go_wp2_with (go_at_call 107; refine CC.out.mono ?_; rintro e w7 ⟨v7, rfl, ho7, hb7⟩; have hN : NewS (fun q v W => AddC T B off name w w.heap.size (8, t, a, b, nm, ot) (bif q then {x with n := x.n + 1, at_ := t, os := dropT x.os nm} else {x with n := x.n + 1, at_ := t}) vm (bif q then v else vo) W) w.heap.size vo (dropT x.os nm) true true false vo v7 w7 := ⟨AddC.step h.s hb7, fun _ => rfl, fun _ => ⟨ho7.r, fun k hk => Nat.le_trans h.s.only.size (ho7.f k hk)⟩, (fun e => by cases e), (fun e => by cases e)⟩)
   all_goals (first | exact hK _ _ hN | exact hN)
  case q4_10 =>
   intro bsE vsE W hlb hlv hnd hbk h
   obtain ⟨b0, b1, b2, rfl⟩ := ll3 hlb
   obtain ⟨v0, v1, v2, rfl⟩ := ll3 hlv
   obtain rfl : b1 = true := hnd 1 (by simp)
   obtain rfl : b2 = false := hbk
   replace h : NewS (fun q v W => AddC T B off name w w.heap.size (8, t, a, b, nm, ot) (bif q then {x with n := x.n + 1, at_ := t, os := dropT x.os nm} else {x with n := x.n + 1, at_ := t}) vm (bif q then v else vo) W) w.heap.size vo (dropT x.os nm) b0 true false v0 v1 W := h
   clear hnd
   have HST := Lib.hid h
   have hrow := h.r1 rfl; obtain ⟨a9, c9, e9, -⟩ := (h.r1 rfl).r; subst e9; have c := h.s.cell (j := 10) rfl; have f := h.s.free 10; have lB := h.s.lt
   intro K Q hK
   simp only [putE, updAll, Act.put, sl1, sl2, sl3, sl4] at hK ⊢
   go_wp2_with fail
   all_goals (have hN : NewS (fun q v W => AddC T B off name w w.heap.size (8, t, a, b, nm, ot) (bif q then {x with n := x.n + 1, at_ := t, os := dropT x.os nm} else {x with n := x.n + 1, at_ := t}) vm (bif q then v else vo) W) w.heap.size vo (dropT x.os nm) b0 true true v0 (.slice a9 (dropT x.os nm).length c9) (W.setCell ⟨B, off + 10, none⟩ (.slice a9 (dropT x.os nm).length c9)) := ⟨AddC.set h.s (j := 10) (.slice a9 _ c9) (by decide) rfl, h.r0, (fun _ => ⟨AddC.rowSet h.s hT hrow.r, hrow.f⟩), h.n1, (fun e => by cases e)⟩)
   all_goals (first | exact hK _ hN | exact hN)
  all_goals
   intro bsE vsE W hlb hlv hnd h
   obtain ⟨b0, b1, b2, rfl⟩ := ll3 hlb
   obtain ⟨v0, v1, v2, rfl⟩ := ll3 hlv
   replace h : NewS (fun q v W => AddC T B off name w w.heap.size (8, t, a, b, nm, ot) (bif q then {x with n := x.n + 1, at_ := t, os := dropT x.os nm} else {x with n := x.n + 1, at_ := t}) vm (bif q then v else vo) W) w.heap.size vo (dropT x.os nm) b0 b1 b2 v0 v1 W := h
   clear hnd
   have HST := Lib.hid h
   have lB := h.s.lt; obtain ⟨e0, e1, e2, e3, e4, e5, el⟩ := h.s.ev
   intro K Q hK
   simp only [putE, updAll, Act.put, sl1, sl2, sl3, sl4] at hK ⊢
   go_wp2_with (fail)
   all_goals (first | exact hK _ (by first | exact h | exact h.step (by repeat' (first | exact Below.refl _ _ | apply bDrewN | apply bDrew))) | exact (by first | exact h | exact h.step (by repeat' (first | exact Below.refl _ _ | apply bDrewN | apply bDrew))))
 case done =>
  intro vsE W hlv h
  obtain ⟨v0, v1, v2, rfl⟩ := ll3 hlv
  replace h : NewS (fun q v W => AddC T B off name w w.heap.size (8, t, a, b, nm, ot) (bif q then {x with n := x.n + 1, at_ := t, os := dropT x.os nm} else {x with n := x.n + 1, at_ := t}) vm (bif q then v else vo) W) w.heap.size vo (dropT x.os nm) true true true v0 v1 W := h
  have HST := Lib.hid h
  have A3 : Hid (AddC T B off name w w.heap.size (8, t, a, b, nm, ot) {x with n := x.n + 1, at_ := t, os := dropT x.os nm} vm v1 W) := h.s
  have HO := Lib.hid (h.r1 rfl)
  clear h HST A2 e0 e1 e2 e3 e4 e5 el lB
  simp only [putE, updAll, Act.put, sl1, sl2, sl3, sl4]
  go_wp2_with fail
  refine bodyPost_end (results_none rfl _ _ _) rfl ?_
  first | exact ⟨rfl, ⟨vm, v1, ⟨A3.out.done (HR.out.1.only A3.out.only hT) HO.out.r, Or.inl rfl, Or.inr HO.out.f⟩⟩, A3.out.only⟩ | exact ⟨rfl, vm, v1, ⟨A3.out.done (HR.out.1.only A3.out.only hT) HO.out.r, Or.inl rfl, Or.inr HO.out.f⟩, A3.out.only⟩
end Go.Proofs.YtmpilgkfbibhlaaGreatDoor
namespace Go.Proofs.YtmpilgkfbibhlaaGreatDoor
open Go.Shelf
def lays171_ren : Go.Shelf.Ren := ⟨fun | 171 => 106 | 243 => 139 | 246 => 127 | 283 => 150 | 284 => 151 | 285 => 152 | 286 => 153 | 129 => 166 | 317 => 165 | 318 => 167 | 319 => 168 | 320 => 169 | 337 => 182 | 338 => 183 | n => n, fun | 3 => 3 | 9 => 9 | 2 => 2 | 4 => 4 | 171 => 220 | 0 => 0 | 53 => 22 | 37 => 88 | 5 => 5 | 173 => 223 | 212 => 238 | 51 => 239 | 20 => 20 | 213 => 240 | 46 => 167 | 232 => 260 | 233 => 261 | n => n, fun | 17 => 0 | 18 => 5 | 19 => 6 | n => n⟩
theorem lays171 : Go.Proofs.Lays.n171 Tryz.prog lays171_ren := {
 mixed := by kernel_rfl
 f129 := Tryz.func166.trans (congrArg some (by kernel_rfl))
 f171 := Tryz.func106.trans (congrArg some (by kernel_rfl))
 f243 := Tryz.func139.trans (congrArg some (by kernel_rfl))
 f246 := Tryz.func127.trans (congrArg some (by kernel_rfl))
 f283 := Tryz.func150.trans (congrArg some (by kernel_rfl))
 f284 := Tryz.func151.trans (congrArg some (by kernel_rfl))
 f285 := Tryz.func152.trans (congrArg some (by kernel_rfl))
 f286 := Tryz.func153.trans (congrArg some (by kernel_rfl))
 f317 := Tryz.func165.trans (congrArg some (by kernel_rfl))
 f318 := Tryz.func167.trans (congrArg some (by kernel_rfl))
 f319 := Tryz.func168.trans (congrArg some (by kernel_rfl))
 f320 := Tryz.func169.trans (congrArg some (by kernel_rfl))
 f337 := Tryz.func182.trans (congrArg some (by kernel_rfl))
 f338 := Tryz.func183.trans (congrArg some (by kernel_rfl))
 t0 := Tryz.underlying0
 a0 := Tryz.isAgg0
 z0 := Tryz.sizeOf0
 v0 := Tryz.zeroValue0
 t2 := Tryz.underlying2
 a2 := Tryz.isAgg2
 z2 := Tryz.sizeOf2
 v2 := Tryz.zeroValue2
 t3 := Tryz.underlying3
 a3 := Tryz.isAgg3
 z3 := Tryz.sizeOf3
 v3 := Tryz.zeroValue3
 t4 := Tryz.underlying4
 a4 := Tryz.isAgg4
 z4 := Tryz.sizeOf4
 v4 := Tryz.zeroValue4
 t5 := Tryz.underlying5
 a5 := Tryz.isAgg5
 z5 := Tryz.sizeOf5
 v5 := Tryz.zeroValue5
 t9 := Tryz.underlying9
 a9 := Tryz.isAgg9
 z9 := Tryz.sizeOf9
 v9 := Tryz.zeroValue9
 t20 := Tryz.underlying20
 a20 := Tryz.isAgg20
 z20 := Tryz.sizeOf20
 v20 := Tryz.zeroValue20
 t37 := Tryz.underlying88
 a37 := Tryz.isAgg88
 z37 := Tryz.sizeOf88
 v37 := Tryz.zeroValue88
 t46 := Tryz.underlying167
 a46 := Tryz.isAgg167
 z46 := Tryz.sizeOf167
 v46 := Tryz.zeroValue167
 t51 := Tryz.underlying239
 a51 := Tryz.isAgg239
 z51 := Tryz.sizeOf239
 v51 := Tryz.zeroValue239
 t53 := Tryz.underlying22
 a53 := Tryz.isAgg22
 z53 := Tryz.sizeOf22
 v53 := Tryz.zeroValue22
 t171 := Tryz.underlying220
 a171 := Tryz.isAgg220
 z171 := Tryz.sizeOf220
 v171 := Tryz.zeroValue220
 t173 := Tryz.underlying223
 a173 := Tryz.isAgg223
 z173 := Tryz.sizeOf223
 v173 := Tryz.zeroValue223
 t212 := Tryz.underlying238
 a212 := Tryz.isAgg238
 z212 := Tryz.sizeOf238
 v212 := Tryz.zeroValue238
 t213 := Tryz.underlying240
 a213 := Tryz.isAgg240
 z213 := Tryz.sizeOf240
 t232 := Tryz.underlying260
 a232 := Tryz.isAgg260
 z232 := Tryz.sizeOf260
 v232 := Tryz.zeroValue260
 t233 := Tryz.underlying261
 a233 := Tryz.isAgg261
 z233 := Tryz.sizeOf261
 v233 := Tryz.zeroValue261
 g17 := by kernel_rfl
 g18 := by kernel_rfl
 g19 := by kernel_rfl }
end Go.Proofs.YtmpilgkfbibhlaaGreatDoor
namespace Go.Proofs.YtmpilgkfbibhlaaGreatDoor
open Go.RowKit Mr
theorem itoaS_nat (i : Nat) : Lib.itoa (i : Int) = Lib.decDigits i := by
 unfold Lib.itoa
 rw [if_neg (by omega)]
 simp
theorem itoaS_any (i : Nat) (hi : i < 100) (w : World) : Calls Tryz.prog 106 #[.int .i64 i] w fun e w' => e = .returned (.string ⟨(Lib.itoa (i : Int)).toArray⟩) ∧ w' = w := by
 rw [itoaS_nat]
 exact Any.strconv_Itoa_small lays171 i hi w
theorem itoaS_len (i : Nat) (hi : i < 100) : (Lib.itoa (i : Int)).length ≤ 40 := by
 have := Lib.itoa_length_le (i : Int) (by omega) (by omega)
 omega
structure MdS (C : Bool → Value → World → Prop) (base : Nat) (vr : Value) (l : List ByteArray) (t : ByteArray) (b0 b1 b2 b3 : Bool) (v0 v1 v2 : Value) (W : World) : Prop where
 s : C b3 v2 W
 r0 : b0 = true → v0 = vr
 ow : b2 = false → W.ownsRow base 9 1 vr l.length (l.map Value.string)
 r1 : b1 = true → ∃ g, v1 = .slice (some ⟨g, 0, none⟩) 1 1 ∧ (b2 = false → W.heap[g]? = some (.cells #[.string t] 9 (0, 0)))
 r2 : b2 = true → W.ownsRow base 9 1 v2 (l ++ [t]).length ((l ++ [t]).map Value.string)
 n1 : b0 = false → b2 = false
 n2 : b1 = false → b2 = false
 n3 : b2 = false → b3 = false
 hb : base ≤ W.heap.size
section
variable {C : Bool → Value → World → Prop} {base : Nat} {vr : Value} {l : List ByteArray} {t : ByteArray} {b0 b1 b2 b3 : Bool} {v0 v1 v2 : Value} {W w2 : World}
theorem MdS.mk1 (h : MdS C base vr l t b0 false false false v0 v1 v2 W) (hC : ∀ q v W w2, C q v W → Below W.heap.size W w2 → C q v w2) :
  MdS C base vr l t b0 true false false v0 (.slice (some ⟨W.heap.size, 0, none⟩) 1 1) v2 (W.alloc (.cells #[.string t] 9)) :=
 ⟨hC _ _ _ _ h.s bAl, h.r0, fun e => own_step (h.ow e) bAl, fun _ => ⟨_, rfl, fun _ => blk_new W _⟩, (fun e => by cases e), h.n1, (fun e => by cases e), fun _ => rfl, Nat.le_trans h.hb bAl.size⟩
theorem MdS.app {o : Oper} {a : Act} {K : Act → World → Prop} {Q : Exit → Act → World → Prop}
  (h : MdS C base vr l t true true false false v0 v1 v2 W) (hC : ∀ (v : Value) (W w2 : World) (u : Value), C false v W → W.grownBy w2 u.ownBlock → (∀ k, u.ownBlock = some k → base ≤ k ∧ ∃ cs, W.heap[k]? = some (.cells cs 9 (0, 0))) → ∀ v', C false v' w2) (hl : l.length ≤ 1000000)
  (s p : Operand) (ho : o.op = .call { callee := .builtin .append, args := #[s, p], argTypes := #[47, 47] }) (hs : a.eval s = v0) (hp : a.eval p = v1)
  (hK : ∀ v' W', MdS C base vr l t true true true false v0 v1 v' W' → K (a.put o.dst v') W') : o.wp Tryz.prog a W K Q := by
 obtain ⟨i0, hi, hz0, hz1, hz2⟩ := info_parts infoS'
 obtain ⟨g, rfl, hg⟩ := h.r1 rfl
 have hg2 := hg rfl
 have hown := h.ow rfl
 have e9 := (h.r0 rfl).symm
 subst e9
 refine wp_app (P := Tryz.prog) W s p 47 ho base 9 i0 (.string ⟨#[]⟩) 1 16 Tryz.underlying47 hi hz0 hz1 hz2 rfl (by decide) vr l.length (l.map Value.string) hs hown (some ⟨g, 0, none⟩) 1 1 [.string t] hp rfl (fun _ => ⟨g, 0, rfl, fun j u hu => ?_⟩) (str1 t) (by unfold maxLen; omega) (by omega) h.hb fun v' W' q1 q2 q3 => hK v' W' ?_
 ·have hj : j = 0 := by
   have := (List.getElem?_eq_some_iff.1 hu).1
   simpa using this
  subst hj
  simp at hu
  rw [← hu]
  exact blk_cell hg2 rfl
 ·refine ⟨hC _ _ _ _ h.s q2 (fun k hk => own_typed hown hk) _, h.r0, (fun e => by cases e), (fun _ => ⟨g, rfl, fun e => by cases e⟩), (fun _ => ?_), (fun e => by cases e), (fun e => by cases e), (fun e => by cases e), Nat.le_trans h.hb q2.size⟩
  rw [List.length_append, List.map_append]
  exact q1
end
def modL (name : ByteArray) (i : Nat) : List ByteArray := (List.range i).map (modN name)
theorem modL_len (name : ByteArray) (i : Nat) : (modL name i).length = i := by simp [modL]
theorem modL_snoc (name : ByteArray) (i : Nat) : modL name i ++ [modN name i] = modL name (i + 1) := by simp [modL, List.range_succ]
set_option maxHeartbeats 4000000 in
set_option maxRecDepth 20000 in
theorem add1_any {T : TypeId} {B off : Nat} {name : ByteArray} {x : LifeS} {vm vo : Value} {w : World} (hT : T ≠ 9) (h : LifeAt T B off name x vm vo w) (hB : LifeB x) (t a b : Int) (nm ot : ByteArray) (hb : 0 ≤ b ∧ b ≤ 32) (hnm : name.size ≤ 1000) (hvm : vm = .slice none 0 0) (hms : x.ms = []) :
  Calls Tryz.prog 46 #[.pointer (some ⟨B, off, none⟩), .agg #[.int .i64 1, .int .i64 t, .int .i64 a, .int .i64 b, .string nm, .string ot]] w fun en w' => en = .returned (.tuple #[]) ∧ ∃ vm' vo', LifeF w T B off name (x.add name (1, t, a, b, nm, ot)) vm vo vm' vo' w' ∧ OnlyB T B off 18 w w' := by
 obtain ⟨nb, rfl⟩ : ∃ nb : Nat, b = nb := ⟨b.toNat, by omega⟩
 have hnb : nb ≤ 32 := by omega
 have HNM := Lib.hid hnm
 subst hvm
 have HMS := Lib.hid hms
 clear hb hms hnm
 have A0 := Lib.hid (add_start h 1 t a (nb : Int) nm ot)
 have HR := Lib.hid (And.intro h.ms h.os)
 have HB := Lib.hid hB
 have hn := hB.n
 have hw1 : IntKind.i64.wrap ((x.n : Int) + 1) = (x.n : Int) + 1 := Go.IntWalk.i64_in _ ⟨by omega, by omega⟩
 clear h hB hn
 go_enter Tryz.func46, Tryz.ntmps46
 go_upto_region 1 with fail
 generalize (w.alloc _) = W0 at *
 have c1 := A0.out.cell (j := 1) rfl
 have f1 := A0.out.free 1
 have lB := A0.out.lt
 go_upto_region 2 with fail
 have A1 : Hid (AddC T B off name w w.heap.size (1, t, a, (nb : Int), nm, ot) {x with n := x.n + 1} (.slice none 0 0) vo (W0.setCell ⟨B, off + 1, none⟩ (.int .i64 ((x.n : Int) + 1)))) := A0.out.set (j := 1) (.int .i64 ((x.n : Int) + 1)) (by decide) rfl
 generalize (W0.setCell ⟨B, off + 1, none⟩ _) = W1 at *
 clear A0 c1 f1 lB hw1
 obtain ⟨e0, e1, e2, e3, e4, e5, el⟩ := A1.out.ev
 have c2 := A1.out.cell (j := 2) rfl
 have f2 := A1.out.free 2
 have lB := A1.out.lt
 go_upto_region 3 with fail
 have A2 : Hid (AddC T B off name w w.heap.size (1, t, a, (nb : Int), nm, ot) {x with n := x.n + 1, at_ := t} (.slice none 0 0) vo (W1.setCell ⟨B, off + 2, none⟩ (.int .i64 t))) := A1.out.set (j := 2) (.int .i64 t) (by decide) rfl
 generalize (W1.setCell ⟨B, off + 2, none⟩ _) = W2 at *
 clear A1 c2 f2 lB e0 e1 e2 e3 e4 e5 el
 obtain ⟨e0, e1, e2, e3, e4, e5, el⟩ := A2.out.ev
 have lB := A2.out.lt
 have c3 := A2.out.cell (j := 3) rfl
 have c4 := A2.out.cell (j := 4) rfl
 have c5 := A2.out.cell (j := 5) rfl
 have c6 := A2.out.cell (j := 6) rfl
 have c7 := A2.out.cell (j := 7) rfl
 have c8 := A2.out.cell (j := 8) rfl
 have f3 := A2.out.free 3
 have f4 := A2.out.free 4
 have f5 := A2.out.free 5
 have f6 := A2.out.free 6
 have f7 := A2.out.free 7
 have f8 := A2.out.free 8
 go_upto_region 6 with fail
 have A3 : Hid (AddC T B off name w w.heap.size (1, t, a, (nb : Int), nm, ot) {x with n := x.n + 1, at_ := t, made := (1, t, a, (nb : Int), nm, ot), ms := x.ms} (.slice none 0 0) vo ((((((W2.setCell ⟨B, off + 3, none⟩ (.int .i64 1)).setCell ⟨B, off + 3 + 1, none⟩ (.int .i64 t)).setCell ⟨B, off + 3 + 2, none⟩ (.int .i64 a)).setCell ⟨B, off + 3 + 3, none⟩ (.int .i64 nb)).setCell ⟨B, off + 3 + 4, none⟩ (.string nm)).setCell ⟨B, off + 3 + 5, none⟩ (.string ot))) := by
  have q0 := AddC.set (x' := {x with n := x.n + 1, at_ := t, made := (1, x.made.2), ms := x.ms}) (vm' := .slice none 0 0) (vo' := vo) A2.out (j := 3) (.int .i64 1) (by decide) rfl
  have q1 := AddC.set (x' := {x with n := x.n + 1, at_ := t, made := (1, t, x.made.2.2), ms := x.ms}) (vm' := .slice none 0 0) (vo' := vo) q0 (j := 4) (.int .i64 t) (by decide) rfl
  have q2 := AddC.set (x' := {x with n := x.n + 1, at_ := t, made := (1, t, a, x.made.2.2.2), ms := x.ms}) (vm' := .slice none 0 0) (vo' := vo) q1 (j := 5) (.int .i64 a) (by decide) rfl
  have q3 := AddC.set (x' := {x with n := x.n + 1, at_ := t, made := (1, t, a, (nb : Int), x.made.2.2.2.2), ms := x.ms}) (vm' := .slice none 0 0) (vo' := vo) q2 (j := 6) (.int .i64 nb) (by decide) rfl
  have q4 := AddC.set (x' := {x with n := x.n + 1, at_ := t, made := (1, t, a, (nb : Int), nm, x.made.2.2.2.2.2), ms := x.ms}) (vm' := .slice none 0 0) (vo' := vo) q3 (j := 7) (.string nm) (by decide) rfl
  have q5 := AddC.set (x' := {x with n := x.n + 1, at_ := t, made := (1, t, a, (nb : Int), nm, ot), ms := x.ms}) (vm' := .slice none 0 0) (vo' := vo) q4 (j := 8) (.string ot) (by decide) rfl
  exact q5
 generalize ((((((W2.setCell ⟨B, off + 3, none⟩ (.int .i64 1)).setCell ⟨B, off + 3 + 1, none⟩ (.int .i64 t)).setCell ⟨B, off + 3 + 2, none⟩ (.int .i64 a)).setCell ⟨B, off + 3 + 3, none⟩ (.int .i64 nb)).setCell ⟨B, off + 3 + 4, none⟩ (.string nm)).setCell ⟨B, off + 3 + 5, none⟩ (.string ot)) = W3 at *
 clear A2 c3 c4 c5 c6 c7 c8 f3 f4 f5 f6 f7 f8 e0 e1 e2 e3 e4 e5 el lB
 replace A3 : Hid (AddC T B off name w w.heap.size (1, t, a, (nb : Int), nm, ot) {x with n := x.n + 1, at_ := t, made := (1, t, a, (nb : Int), nm, ot), ms := (modL name 0)} (.slice none 0 0) vo W3) := by
  have q := A3.out
  rw [HMS.out] at q
  exact q
 obtain ⟨e0, e1, e2, e3, e4, e5, el⟩ := A3.out.ev
 have HO : Hid (W3.ownsRow w.heap.size 9 1 (.slice none 0 0) 0 ((modL name 0).map Value.string)) := ⟨rfl, Or.inl ⟨rfl, rfl⟩⟩
 go_wp2_with fail
 clear e0 e1 e2 e3 e4 e5 el
 go_loopw [27] (fun ix wr => ∃ (i : Nat) (vm : Value), i ≤ nb ∧ ix = .int .i64 i ∧ Hid (AddC T B off name w w.heap.size (1, t, a, (nb : Int), nm, ot) {x with n := x.n + 1, at_ := t, made := (1, t, a, (nb : Int), nm, ot), ms := (modL name i)} vm vo wr) ∧ Hid (wr.ownsRow w.heap.size 9 1 vm i ((modL name i).map Value.string))) (fun ix _ => nb - (intOf ix).toNat)
 case atStart => exact ⟨0, _, by omega, rfl, A3, HO⟩
 case round =>
  clear A3 HO
  obtain ⟨i, vm, hi, rfl, A, HO⟩ := hrel
  by_cases hc : i < nb
  ·have c1 : (i : Int) < nb := by omega
   have HIC := Lib.hid (fun w => itoaS_any i (by omega) w)
   clear hc
   have hty : (⟨(Lib.itoa (i : Int)).toArray⟩ : ByteArray).size ≤ 40 := by
    rw [Lib.size_eq]
    exact itoaS_len i (by omega)
   obtain ⟨ty, hty2⟩ : ∃ ty : ByteArray, ⟨(Lib.itoa (i : Int)).toArray⟩ = ty := ⟨_, rfl⟩
   have HSN := Lib.hid (modL_snoc name i)
   have hmn : modN name i = (name ++ ⟨#[58]⟩) ++ ⟨(Lib.itoa (i : Int)).toArray⟩ := rfl
   rw [hty2] at HIC hty hmn
   have q1 : ¬ 9223372036854775807 < name.size + 1 := by have := HNM.out; omega
   obtain ⟨t1, ht1⟩ : ∃ t1 : ByteArray, name ++ ⟨#[58]⟩ = t1 := ⟨_, rfl⟩
   have st : t1.size = name.size + 1 := by rw [← ht1]; simp; rfl
   have q2 : ¬ 9223372036854775807 < t1.size + ty.size := by have := HNM.out; omega
   rw [ht1] at hmn
   have hlL := modL_len name i
   generalize modN name i = t3 at *
   have ht3 := hmn.symm
   clear hmn hty2 st hty
   have HLL : Hid ((modL name i).length ≤ 1000000) := by unfold Hid; rw [hlL]; omega
   replace HO : Hid (wr.ownsRow w.heap.size 9 1 vm (modL name i).length ((modL name i).map Value.string)) := by unfold Hid; rw [hlL]; exact HO.out
   have HLN := Lib.hid hlL
   clear hlL
   have lB := A.out.lt
   go_upto_region 9 with fail
   refine region_all 18 14 158 [(4, 34), (13, 43), (14, 44), (17, 161)] [(none, []), (none, []), (none, []), (none, []), (some 0, []), (none, []), (none, []), (none, []), (none, []), (none, []), (none, []), (none, []), (none, []), (some 1, []), (some 2, [0, 1]), (none, []), (none, []), (some 3, [2])] [(30, (.pointer (some ⟨B, off, none⟩))), (31, (.pointer (some ⟨B, off, none⟩))), (32, (.pointer (some ⟨B, off, none⟩))), (33, (.pointer (some ⟨B, off + 9, none⟩))), (35, (.pointer (some ⟨B, off, none⟩))), (36, (.pointer (some ⟨B, off, none⟩))), (37, (.pointer (some ⟨B, off, none⟩))), (38, (.string name)), (39, (.string t1)), (40, (.int .i64 (i : Int))), (41, (.string ty)), (42, (.string t3)), (45, (.pointer (some ⟨B, off, none⟩))), (46, (.pointer (some ⟨B, off + 9, none⟩)))] (fun bsE vsE W => MdS (fun q v W => AddC T B off name w w.heap.size (1, t, a, (nb : Int), nm, ot) (bif q then {x with n := x.n + 1, at_ := t, made := (1, t, a, (nb : Int), nm, ot), ms := (modL name i ++ [t3])} else {x with n := x.n + 1, at_ := t, made := (1, t, a, (nb : Int), nm, ot), ms := (modL name i)}) (bif q then v else vm) vo W) w.heap.size vm (modL name i) t3 (bsE.getD 0 false) (bsE.getD 1 false) (bsE.getD 2 false) (bsE.getD 3 false) (vsE.getD 0 undef) (vsE.getD 1 undef) (vsE.getD 2 undef) W) (by kernel_rfl) (by kernel_rfl) rfl rfl (by kernel_rfl) (by rfl) ?h0 ?each ?done
   case h0 =>
    intro vsE hlv
    obtain ⟨v0, v1, v2, v3, rfl⟩ := ll4 hlv
    exact ⟨A.out.step (Below.refl _ _).drew, (fun e => by cases e), (fun _ => own_step HO.out (Below.refl _ _).drew), (fun e => by cases e), (fun e => by cases e), (fun _ => rfl), (fun _ => rfl), (fun _ => rfl), A.out.only.size⟩
   case each =>
    simp only [AllE]
    refine ⟨⟨30, (.pointer (some ⟨B, off, none⟩)), rfl, by kernel_rfl, ?_⟩, ⟨31, (.pointer (some ⟨B, off, none⟩)), rfl, by kernel_rfl, ?_⟩, ⟨32, (.pointer (some ⟨B, off, none⟩)), rfl, by kernel_rfl, ?_⟩, ⟨33, (.pointer (some ⟨B, off + 9, none⟩)), rfl, by kernel_rfl, ?_⟩, Or.inl ⟨34, rfl, ?q1_4⟩, ⟨35, (.pointer (some ⟨B, off, none⟩)), rfl, by kernel_rfl, ?_⟩, ⟨36, (.pointer (some ⟨B, off, none⟩)), rfl, by kernel_rfl, ?_⟩, ⟨37, (.pointer (some ⟨B, off, none⟩)), rfl, by kernel_rfl, ?_⟩, ⟨38, (.string name), rfl, by kernel_rfl, ?q1_8⟩, ⟨39, (.string t1), rfl, by kernel_rfl, ?_⟩, ⟨40, (.int .i64 (i : Int)), rfl, by kernel_rfl, ?_⟩, ⟨41, (.string ty), rfl, by kernel_rfl, ?q1_11⟩, ⟨42, (.string t3), rfl, by kernel_rfl, ?_⟩, Or.inl ⟨43, rfl, ?q1_13⟩, Or.inl ⟨44, rfl, ?q1_14⟩, ⟨45, (.pointer (some ⟨B, off, none⟩)), rfl, by kernel_rfl, ?_⟩, ⟨46, (.pointer (some ⟨B, off + 9, none⟩)), rfl, by kernel_rfl, ?_⟩, Or.inr ⟨rfl, ?q1_17⟩, trivial⟩
    case q1_4 =>
     intro bsE vsE W hlb hlv hnd hbk h
     obtain ⟨b0, b1, b2, b3, rfl⟩ := ll4 hlb
     obtain ⟨v0, v1, v2, v3, rfl⟩ := ll4 hlv
     obtain rfl : b0 = false := hbk
     replace h : MdS (fun q v W => AddC T B off name w w.heap.size (1, t, a, (nb : Int), nm, ot) (bif q then {x with n := x.n + 1, at_ := t, made := (1, t, a, (nb : Int), nm, ot), ms := (modL name i ++ [t3])} else {x with n := x.n + 1, at_ := t, made := (1, t, a, (nb : Int), nm, ot), ms := (modL name i)}) (bif q then v else vm) vo W) w.heap.size vm (modL name i) t3 false b1 b2 b3 v0 v1 v2 W := h
     clear hnd
     have HST := Lib.hid h
     obtain rfl := h.n1 rfl; obtain rfl := h.n3 rfl; have c := h.s.cell (j := 9) rfl; have lB := h.s.lt
     intro K Q hK
     simp only [putE, updAll, Act.put, sl1, sl2, sl3, sl4] at hK ⊢
     go_wp2_with fail
     all_goals (have hN : MdS (fun q v W => AddC T B off name w w.heap.size (1, t, a, (nb : Int), nm, ot) (bif q then {x with n := x.n + 1, at_ := t, made := (1, t, a, (nb : Int), nm, ot), ms := (modL name i ++ [t3])} else {x with n := x.n + 1, at_ := t, made := (1, t, a, (nb : Int), nm, ot), ms := (modL name i)}) (bif q then v else vm) vo W) w.heap.size vm (modL name i) t3 true b1 false false vm v1 v2 W := ⟨h.s, fun _ => rfl, h.ow, h.r1, h.r2, (fun e => by cases e), h.n2, h.n3, h.hb⟩)
     all_goals (first | exact hK _ _ hN | exact hN)
    case q1_8 =>
     intro bsE vsE W hlb hlv hnd h
     obtain ⟨b0, b1, b2, b3, rfl⟩ := ll4 hlb
     obtain ⟨v0, v1, v2, v3, rfl⟩ := ll4 hlv
     replace h : MdS (fun q v W => AddC T B off name w w.heap.size (1, t, a, (nb : Int), nm, ot) (bif q then {x with n := x.n + 1, at_ := t, made := (1, t, a, (nb : Int), nm, ot), ms := (modL name i ++ [t3])} else {x with n := x.n + 1, at_ := t, made := (1, t, a, (nb : Int), nm, ot), ms := (modL name i)}) (bif q then v else vm) vo W) w.heap.size vm (modL name i) t3 b0 b1 b2 b3 v0 v1 v2 W := h
     clear hnd
     have HST := Lib.hid h
     have c0 : W.cell? ⟨B, off, none⟩ = some (.string name) := h.s.cell (j := 0) rfl; have lB := h.s.lt
     intro K Q hK
     simp only [putE, updAll, Act.put, sl1, sl2, sl3, sl4] at hK ⊢
     go_wp2_with (fail)
     all_goals (first | exact hK _ (by first | exact h | exact h.step (by repeat' (first | exact Below.refl _ _ | apply bDrewN | apply bDrew))) | exact (by first | exact h | exact h.step (by repeat' (first | exact Below.refl _ _ | apply bDrewN | apply bDrew))))
    case q1_11 =>
     intro bsE vsE W hlb hlv hnd h
     obtain ⟨b0, b1, b2, b3, rfl⟩ := ll4 hlb
     obtain ⟨v0, v1, v2, v3, rfl⟩ := ll4 hlv
     replace h : MdS (fun q v W => AddC T B off name w w.heap.size (1, t, a, (nb : Int), nm, ot) (bif q then {x with n := x.n + 1, at_ := t, made := (1, t, a, (nb : Int), nm, ot), ms := (modL name i ++ [t3])} else {x with n := x.n + 1, at_ := t, made := (1, t, a, (nb : Int), nm, ot), ms := (modL name i)}) (bif q then v else vm) vo W) w.heap.size vm (modL name i) t3 b0 b1 b2 b3 v0 v1 v2 W := h
     clear hnd
     have HST := Lib.hid h
     have lB := h.s.lt
     intro K Q hK
     simp only [putE, updAll, Act.put, sl1, sl2, sl3, sl4] at hK ⊢
     go_wp2_with (go_at_call 106; refine (HIC.out _).mono ?_; rintro e w7 ⟨rfl, rfl⟩)
     all_goals (first | exact hK _ (by first | exact h | exact h.step (by repeat' (first | exact Below.refl _ _ | apply bDrewN | apply bDrew))) | exact (by first | exact h | exact h.step (by repeat' (first | exact Below.refl _ _ | apply bDrewN | apply bDrew))))
    case q1_13 =>
     intro bsE vsE W hlb hlv hnd hbk h
     obtain ⟨b0, b1, b2, b3, rfl⟩ := ll4 hlb
     obtain ⟨v0, v1, v2, v3, rfl⟩ := ll4 hlv
     obtain rfl : b1 = false := hbk
     replace h : MdS (fun q v W => AddC T B off name w w.heap.size (1, t, a, (nb : Int), nm, ot) (bif q then {x with n := x.n + 1, at_ := t, made := (1, t, a, (nb : Int), nm, ot), ms := (modL name i ++ [t3])} else {x with n := x.n + 1, at_ := t, made := (1, t, a, (nb : Int), nm, ot), ms := (modL name i)}) (bif q then v else vm) vo W) w.heap.size vm (modL name i) t3 b0 false b2 b3 v0 v1 v2 W := h
     clear hnd
     have HST := Lib.hid h
     obtain rfl := h.n2 rfl; obtain rfl := h.n3 rfl
     intro K Q hK
     simp only [putE, updAll, Act.put, sl1, sl2, sl3, sl4] at hK ⊢
     go_wp2_with fail
     all_goals (have hN := h.mk1 (fun q v W w2 h hb => AddC.step h hb))
     all_goals (first | exact hK _ _ hN | exact hN)
    case q1_14 =>
     intro bsE vsE W hlb hlv hnd hbk h
     obtain ⟨b0, b1, b2, b3, rfl⟩ := ll4 hlb
     obtain ⟨v0, v1, v2, v3, rfl⟩ := ll4 hlv
     obtain rfl : b0 = true := hnd 0 (by simp)
     obtain rfl : b1 = true := hnd 1 (by simp)
     obtain rfl : b2 = false := hbk
     replace h : MdS (fun q v W => AddC T B off name w w.heap.size (1, t, a, (nb : Int), nm, ot) (bif q then {x with n := x.n + 1, at_ := t, made := (1, t, a, (nb : Int), nm, ot), ms := (modL name i ++ [t3])} else {x with n := x.n + 1, at_ := t, made := (1, t, a, (nb : Int), nm, ot), ms := (modL name i)}) (bif q then v else vm) vo W) w.heap.size vm (modL name i) t3 true true false b3 v0 v1 v2 W := h
     clear hnd
     have HST := Lib.hid h
     obtain rfl := h.n3 rfl
     intro K Q hK
     simp only [putE, updAll, Act.put, sl1, sl2, sl3, sl4] at hK ⊢
     exact h.app (fun v W w2 u h hg hu v' => AddC.grownS h hg hu) HLL.out (.tmp 34) (.tmp 43) rfl rfl rfl hK
    case q1_17 =>
     intro bsE vsE W hlb hlv hnd hbk h
     obtain ⟨b0, b1, b2, b3, rfl⟩ := ll4 hlb
     obtain ⟨v0, v1, v2, v3, rfl⟩ := ll4 hlv
     obtain rfl : b2 = true := hnd 2 (by simp)
     obtain rfl : b3 = false := hbk
     replace h : MdS (fun q v W => AddC T B off name w w.heap.size (1, t, a, (nb : Int), nm, ot) (bif q then {x with n := x.n + 1, at_ := t, made := (1, t, a, (nb : Int), nm, ot), ms := (modL name i ++ [t3])} else {x with n := x.n + 1, at_ := t, made := (1, t, a, (nb : Int), nm, ot), ms := (modL name i)}) (bif q then v else vm) vo W) w.heap.size vm (modL name i) t3 b0 b1 true false v0 v1 v2 W := h
     clear hnd
     have HST := Lib.hid h
     obtain ⟨a9, c9, e9, -⟩ := Rw.Own.get (r := ⟨9, 1, _, (modL name i ++ [t3]).length, (modL name i ++ [t3]).map Value.string⟩) (h.r2 rfl); dsimp only at e9; rw [List.length_append, List.length_singleton] at e9; subst e9; have c := h.s.cell (j := 9) rfl; have f := h.s.free 9; have lB := h.s.lt
     intro K Q hK
     simp only [putE, updAll, Act.put, sl1, sl2, sl3, sl4] at hK ⊢
     go_wp2_with fail
     all_goals (have hN : MdS (fun q v W => AddC T B off name w w.heap.size (1, t, a, (nb : Int), nm, ot) (bif q then {x with n := x.n + 1, at_ := t, made := (1, t, a, (nb : Int), nm, ot), ms := (modL name i ++ [t3])} else {x with n := x.n + 1, at_ := t, made := (1, t, a, (nb : Int), nm, ot), ms := (modL name i)}) (bif q then v else vm) vo W) w.heap.size vm (modL name i) t3 b0 b1 true true v0 v1 (.slice a9 ((modL name i).length + 1) c9) (W.setCell ⟨B, off + 9, none⟩ (.slice a9 ((modL name i).length + 1) c9)) := ⟨AddC.set h.s (j := 9) (.slice a9 _ c9) (by decide) rfl, h.r0, (fun e => by cases e), (fun e => by obtain ⟨g, q1, q2⟩ := h.r1 e; exact ⟨g, q1, (fun e => by cases e)⟩), (fun e => ownsRow_setCell_below (h.r2 rfl) (show B < w.heap.size from h.s.only.lt) _), (fun e => absurd (h.n1 e) (by decide)), (fun e => absurd (h.n2 e) (by decide)), (fun e => by cases e), (by simpa using h.hb)⟩)
     all_goals (first | exact hK _ hN | exact hN)
    all_goals
     intro bsE vsE W hlb hlv hnd h
     obtain ⟨b0, b1, b2, b3, rfl⟩ := ll4 hlb
     obtain ⟨v0, v1, v2, v3, rfl⟩ := ll4 hlv
     replace h : MdS (fun q v W => AddC T B off name w w.heap.size (1, t, a, (nb : Int), nm, ot) (bif q then {x with n := x.n + 1, at_ := t, made := (1, t, a, (nb : Int), nm, ot), ms := (modL name i ++ [t3])} else {x with n := x.n + 1, at_ := t, made := (1, t, a, (nb : Int), nm, ot), ms := (modL name i)}) (bif q then v else vm) vo W) w.heap.size vm (modL name i) t3 b0 b1 b2 b3 v0 v1 v2 W := h
     clear hnd
     have HST := Lib.hid h
     have lB := h.s.lt
     intro K Q hK
     simp only [putE, updAll, Act.put, sl1, sl2, sl3, sl4] at hK ⊢
     go_wp2_with (fail)
     all_goals (first | exact hK _ (by first | exact h | exact h.step (by repeat' (first | exact Below.refl _ _ | apply bDrewN | apply bDrew))) | exact (by first | exact h | exact h.step (by repeat' (first | exact Below.refl _ _ | apply bDrewN | apply bDrew))))
   case done =>
    intro vsE W hlv h
    obtain ⟨v0, v1, v2, v3, rfl⟩ := ll4 hlv
    replace h : MdS (fun q v W => AddC T B off name w w.heap.size (1, t, a, (nb : Int), nm, ot) (bif q then {x with n := x.n + 1, at_ := t, made := (1, t, a, (nb : Int), nm, ot), ms := (modL name i ++ [t3])} else {x with n := x.n + 1, at_ := t, made := (1, t, a, (nb : Int), nm, ot), ms := (modL name i)}) (bif q then v else vm) vo W) w.heap.size vm (modL name i) t3 true true true true v0 v1 v2 W := h
    have HST := Lib.hid h
    have A3 : Hid (AddC T B off name w w.heap.size (1, t, a, (nb : Int), nm, ot) {x with n := x.n + 1, at_ := t, made := (1, t, a, (nb : Int), nm, ot), ms := (modL name (i + 1))} v2 vo W) := by rw [← HSN.out]; exact h.s
    have HO3 : Hid (W.ownsRow w.heap.size 9 1 v2 (i + 1) ((modL name (i + 1)).map Value.string)) := by have q := h.r2 rfl; rw [HSN.out, modL_len] at q; exact q
    clear h HST A HO lB q1 q2 ht1 ht3 HSN HIC HLL HLN
    simp only [putE, updAll, Act.put, sl1, sl2, sl3, sl4]
    go_wp2_with fail
    exact ⟨⟨i + 1, v2, by omega, by push_cast; rfl, A3, HO3⟩, by simp [intOf]; omega⟩
  ·obtain rfl : i = nb := by omega
   clear hc hi
   go_wp2_with fail
   refine bodyPost_end (results_none rfl _ _ _) rfl ?_
   have hms : LifeS.add name x (1, t, a, (i : Int), nm, ot) = {x with n := x.n + 1, at_ := t, made := (1, t, a, (i : Int), nm, ot), ms := (modL name i)} := by
    unfold LifeS.add modStep opnStep
    simp [HMS.out, modL]
   rw [hms]
   have h1 : SRow vm (modL name i) _ := SRow.of_own (by rw [modL_len]; exact HO.out)
   first | exact ⟨rfl, ⟨vm, vo, ⟨A.out.done h1 (HR.out.2.only A.out.only hT), NewV.of_own HO.out, Or.inl rfl⟩⟩, A.out.only⟩ | exact ⟨rfl, vm, vo, ⟨A.out.done h1 (HR.out.2.only A.out.only hT), NewV.of_own HO.out, Or.inl rfl⟩, A.out.only⟩
end Go.Proofs.YtmpilgkfbibhlaaGreatDoor
