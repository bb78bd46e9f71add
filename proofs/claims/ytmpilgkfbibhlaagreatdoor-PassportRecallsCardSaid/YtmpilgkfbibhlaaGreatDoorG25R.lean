/-
 Guards as texts: the plain law.
-/
import Derived.Test.YtmpilgkfbibhlaaGreatDoorG24R
import Derived.Lib.Split
import Derived.Lib.SplitLaws
import Derived.Test.YtmpilgkfbibhlaaGreatDoorG5R
import Derived.Lib.ParseIntBTie
set_option linter.unusedSimpArgs false
set_option linter.unusedVariables false
namespace Go.Proofs.YtmpilgkfbibhlaaGreatDoor
/-! Texts cut at spaces. -/
theorem take_at {l : List UInt8} {i : Nat} {c : UInt8} (h : l[i]? = some c) : l = l.take i ++ c :: l.drop (i + 1) := by
 obtain ⟨hi, hc⟩ := List.getElem?_eq_some_iff.1 h
 conv => lhs; rw [← List.take_append_drop i l]
 rw [List.drop_eq_getElem_cons hi, hc]
/-! Guards. -/
def gW : List UInt8 := [103, 117, 97, 114, 100]
def gZ (L : List Int) : List (List UInt8) := gW :: L.map Lib.itoa
def gTxt (L : List Int) : List UInt8 := Lib.join (gZ L) [32]
open Classical in
noncomputable def parG (ok : List Int → Prop) (l : List UInt8) : Option (List Int) := if h : ∃ L, L.length = 22 ∧ ok L ∧ l = gTxt L then some h.choose else none
section
variable {ok : List Int → Prop} {l : List UInt8}
end
/-! The reference's way: pieces one by one. -/
section
variable {ok : List Int → Prop} {l : List UInt8} {X : List Int}
end
end Go.Proofs.YtmpilgkfbibhlaaGreatDoor
namespace Go.Proofs.YtmpilgkfbibhlaaGreatDoor
open Sx Go.RowKit
def mAt (s : ByteArray) (j : Nat) : Prop := ∃ o : List UInt8, s.data.toList = o ++ 58 :: Lib.itoa (j : Int) ∧ nameB ⟨o.toArray⟩ = true
theorem name_no58 {o : List UInt8} (h : nameB ⟨o.toArray⟩ = true) : ∀ c ∈ o, c ≠ 58 := fun c hc e => by
 unfold nameB at h
 rw [Bool.and_eq_true] at h
 have := List.all_eq_true.1 h.2 c (by simpa using hc)
 subst e
 revert this
 decide
theorem colon_at {s : ByteArray} {o r : List UInt8} (h : s.data.toList = o ++ 58 :: r) (ho : ∀ c ∈ o, c ≠ 58) : colon s = o.length := by
 have h0 : s.data.toList[o.length]? = some 58 := by rw [h]; simp
 unfold colon
 rcases Int.lt_or_le (Lib.indexByte s.data.toList 58) 0 with q | q
 ·have h1 : Lib.indexByte s.data.toList 58 = -1 := by have := Lib.indexByte_ge s.data.toList 58; omega
  exact absurd h0 (Lib.indexByte_none h1 _)
 ·obtain ⟨i, hi⟩ := Int.eq_ofNat_of_zero_le q
  obtain ⟨a1, a2⟩ := Lib.indexByte_some hi
  rw [hi]
  rcases Nat.lt_trichotomy i o.length with c | c | c
  ·exfalso
   rw [h, List.getElem?_append_left c] at a1
   exact ho _ (List.mem_of_getElem? a1) rfl
  ·rw [c]
  ·exact absurd h0 (a2 _ c)
theorem cut_at58 {s : ByteArray} {o r : List UInt8} (h : s.data.toList = o ++ 58 :: r) (ho : ∀ c ∈ o, c ≠ 58) : cutS s = (⟨o.toArray⟩, ⟨r.toArray⟩, true) := by
 have hc := colon_at h ho
 have hsz : s.size = o.length + 1 + r.length := by rw [Lib.size_eq, h]; simp; omega
 have e1 : s.extract 0 o.length = ⟨o.toArray⟩ := ba_inj (by rw [Lib.extract_eq, h]; simp)
 have e2 : s.extract (o.length + 1) s.size = ⟨r.toArray⟩ := ba_inj (by rw [Lib.extract_eq, h, hsz]; simp)
 unfold cutS
 rw [if_pos (by rw [hc]; omega), hc]
 simp only [Int.toNat_natCast]
 rw [e1, e2]
theorem mAt_mod {s : ByteArray} {j : Nat} (hj : j < 32) {o : List UInt8} (h : s.data.toList = o ++ 58 :: Lib.itoa (j : Int)) (hn : nameB ⟨o.toArray⟩ = true) : modB s = true ∧ (cutS s).1 = ⟨o.toArray⟩ := by
 have hc := cut_at58 h (name_no58 hn)
 have hv : numS ⟨(Lib.itoa (j : Int)).toArray⟩ = some (j : Int) := by
  unfold numS
  rw [← Lib.parseIntB_64]
  have e : (ByteArray.mk (Lib.itoa (j : Int)).toArray).data.toList = Lib.itoa (j : Int) := by simp
  rw [e, parse_itoa (by omega) (by omega)]
 refine ⟨?_, by rw [hc]⟩
 unfold modB
 rw [hc]
 dsimp only
 rw [hv]
 have e2 : (ByteArray.mk (Lib.itoa (j : Int)).toArray).toList = Lib.itoa (j : Int) := by rw [Lib.toList_data]
 simp only [Bool.true_and, Bool.and_eq_true, decide_eq_true_eq, beq_iff_eq]
 exact ⟨⟨⟨by omega, by omega⟩, e2.symm⟩, hn⟩
theorem mod_mAt {s : ByteArray} (h : modB s = true) : ∃ j, j < 32 ∧ mAt s j := by
 unfold modB at h
 rw [Bool.and_eq_true] at h
 obtain ⟨h1, h2⟩ := h
 have hc : 0 ≤ colon s := by
  by_cases hc : 0 ≤ colon s
  ·exact hc
  ·unfold cutS at h1; rw [if_neg hc] at h1; cases h1
 have e : cutS s = (s.extract 0 (colon s).toNat, s.extract ((colon s).toNat + 1) s.size, true) := by unfold cutS; rw [if_pos hc]
 rw [e] at h2
 obtain ⟨i, hi⟩ := Int.eq_ofNat_of_zero_le hc
 have hat := (Lib.indexByte_some (l := s.data.toList) (c := 58) (o := i) hi).1
 have hil := (List.getElem?_eq_some_iff.1 hat).1
 rw [hi] at h2
 simp only [Int.toNat_natCast] at h2
 have ea : (s.extract 0 i).data.toList = s.data.toList.take i := by rw [Lib.extract_eq]; simp
 have eb : (s.extract (i + 1) s.size).data.toList = s.data.toList.drop (i + 1) := by
  rw [Lib.extract_eq]
  simp only [List.toList_toArray]
  exact List.take_of_length_le (by rw [List.length_drop, ← Lib.size_eq]; exact Nat.le_refl _)
 cases hn : numS (s.extract (i + 1) s.size) with
 | none => rw [hn] at h2; cases h2
 | some v =>
  rw [hn] at h2
  simp only [Bool.and_eq_true, decide_eq_true_eq, beq_iff_eq] at h2
  obtain ⟨⟨⟨v0, v1⟩, hv⟩, hnm⟩ := h2
  obtain ⟨j, rfl⟩ := Int.eq_ofNat_of_zero_le v0
  rw [Lib.toList_data, eb] at hv
  refine ⟨j, by omega, s.data.toList.take i, ?_, ?_⟩
  ·rw [hv]
   exact take_at hat
  ·have : (⟨(s.data.toList.take i).toArray⟩ : ByteArray) = s.extract 0 i := ba_inj (by rw [ea])
   rw [this]
   exact hnm
end Go.Proofs.YtmpilgkfbibhlaaGreatDoor
namespace Go.Proofs.YtmpilgkfbibhlaaGreatDoor
open Sx Go.RowKit Mr
structure RegA where
 pt : Nat
 bks : List Bk
 used : List Nat
 ps : List (ByteArray × List Ent)
def RegS.abs (g : RegS) : RegA := ⟨g.pt, g.bks, g.used, g.qs.map fun q => (q.nm, q.es)⟩
def leftA (a : RegA) (b : Int) : Int := if 0 ≤ b ∧ b < a.bks.length then ((a.bks.getD b.toNat (0, [])).2.length : Int) - (a.used.getD b.toNat 0 : Nat) else 0
theorem left_abs (g : RegS) (b : Int) : leftR g b = leftA g.abs b := rfl
def lf (p : ByteArray × List Ent) : LifeS := lifeOf p.1 (evsOf p.2)
def findA (nm : ByteArray) (a : RegA) : Nat := a.ps.findIdx fun p => eqT p.1 nm
def whereA (m : ByteArray) (a : RegA) : Nat := a.ps.findIdx fun p => hasT (lf p).ms m
def putP (a : RegA) (n : Nat) (e : Evt) (p : ByteArray × List Ent) : ByteArray × List Ent := (p.1, p.2 ++ [nextE a.pt a.bks (headOf a.pt p.1 p.2) e n (a.used.getD n 0)])
def putA (a : RegA) (n i : Nat) (e : Evt) : RegA := match a.ps[i]? with
 | none => a
 | some p => { a with used := a.used.set n (a.used.getD n 0 + 1), ps := a.ps.set i (putP a n e p) }
theorem putA_at {a : RegA} {n i : Nat} {e : Evt} {p : ByteArray × List Ent} (h : a.ps[i]? = some p) : putA a n i e = { a with used := a.used.set n (a.used.getD n 0 + 1), ps := a.ps.set i (putP a n e p) } := by unfold putA; rw [h]
def enterA (a : RegA) (b : Int) (nm : ByteArray) (e : Evt) : Int × RegA :=
 if ¬ (0 ≤ b ∧ b < a.bks.length) then (3, a) else
 if ¬ (nameB nm = true ∧ okX e = true ∧ e.1 ≠ 5 ∧ e.1 ≠ 6) then (2, a) else
 if e.1 = 1 then
  if findA nm a < a.ps.length then (12, a) else if 100 ≤ a.ps.length then (11, a) else if leftA a b < 1 then (4, a) else
  (0, putA { a with ps := a.ps ++ [(nm, [])] } b.toNat a.ps.length e)
 else match a.ps[findA nm a]? with
  | none => (5, a)
  | some p => if canP p.1 (lf p) e = false then (10, a) else if 500 ≤ p.2.length then (11, a) else if leftA a b < 1 then (4, a) else (0, putA a b.toNat (findA nm a) e)
def emp : ByteArray := ⟨#[]⟩
def takeE (t : Int) (m to : ByteArray) : Evt := (6, t, 0, 0, m, to)
def bringE (t : Int) (m nm : ByteArray) : Evt := (5, t, 0, 0, m, nm)
def recE (t : Int) (r : ByteArray) : Evt := (7, t, 0, 0, r, emp)
def timeB (t : Int) : Bool := decide (0 ≤ t ∧ t ≤ 1099511627776)
def moveA (a : RegA) (b t : Int) (m to : ByteArray) : Int × RegA :=
 if ¬ (0 ≤ b ∧ b < a.bks.length) then (3, a) else
 if ¬ (modB m = true ∧ nameB to = true ∧ timeB t = true) then (2, a) else
 match a.ps[whereA m a]?, a.ps[findA to a]? with
 | some p, some q =>
  if whereA m a = findA to a ∨ canP p.1 (lf p) (takeE t m to) = false ∨ canP q.1 (lf q) (bringE t m p.1) = false then (10, a) else
  if 500 ≤ p.2.length ∨ 500 ≤ q.2.length then (11, a) else if leftA a b < 2 then (4, a) else
  (0, putA (putA a b.toNat (whereA m a) (takeE t m to)) b.toNat (findA to a) (bringE t m p.1))
 | _, _ => (5, a)
def hitA (a : RegA) (bt : ByteArray) (t0 t1 : Int) (m : ByteArray) : Bool := match a.ps[findA (cutS m).1 a]? with
 | some o => eqT (lf o).made.2.2.2.2.1 bt && decide (t0 ≤ (lf o).made.2.1) && decide ((lf o).made.2.1 ≤ t1)
 | none => false
def affP (a : RegA) (bt : ByteArray) (t0 t1 : Int) (r : ByteArray) (p : ByteArray × List Ent) : Bool := !(hasT (lf p).os r) && (lf p).ms.any (hitA a bt t0 t1)
def affA (a : RegA) (bt : ByteArray) (t0 t1 : Int) (r : ByteArray) : List Nat := (List.range a.ps.length).filter fun i => match a.ps[i]? with
 | some p => affP a bt t0 t1 r p
 | none => false
def recsA (t : Int) (r : ByteArray) (n : Nat) (l : List Nat) (a : RegA) : RegA := l.foldl (fun a i => putA a n i (recE t r)) a
def nameA (a : RegA) (i : Nat) : ByteArray := (a.ps.getD i (emp, [])).1
def packA (a : RegA) (i : Nat) : ByteArray × List Ent := a.ps.getD i (emp, [])
def recallA (a : RegA) (b t : Int) (bt : ByteArray) (t0 t1 : Int) (r : ByteArray) : Int × List ByteArray × RegA :=
 if ¬ (0 ≤ b ∧ b < a.bks.length) then (3, [], a) else
 if ¬ (nameB bt = true ∧ nameB r = true ∧ timeB t = true ∧ timeB t0 = true ∧ timeB t1 = true) then (2, [], a) else
 if (affA a bt t0 t1 r).any (fun i => decide (t < (lf (packA a i)).at_)) = true then (10, [], a) else
 if (affA a bt t0 t1 r).any (fun i => decide (500 ≤ (packA a i).2.length)) = true then (11, [], a) else
 if leftA a b < (affA a bt t0 t1 r).length then (4, [], a) else
 (0, (affA a bt t0 t1 r).map (nameA a), recsA t r b.toNat (affA a bt t0 t1 r) a)
structure OkB (a : RegA) : Prop where
 sec : secR a.pt a.bks = 0
 u8 : a.used.length = 8
 us : ∀ k, a.used.getD k 0 ≤ (a.bks.getD k (0, [])).2.length
 np : a.ps.length ≤ 100
 p : ∀ p ∈ a.ps, p.2.length ≤ 500 ∧ LegH p.1 (evsOf p.2) ∧ (∀ e ∈ evsOf p.2, okX e = true) ∧ nameB p.1 = true
structure OkA (a : RegA) : Prop extends OkB a where
 ne : ∀ p ∈ a.ps, p.2 ≠ []
 nm : ∀ (i j : Nat) (p q : ByteArray × List Ent), a.ps[i]? = some p → a.ps[j]? = some q → p.1 = q.1 → i = j
 org : ∀ p ∈ a.ps, ∀ m ∈ (lf p).ms, ∃ o ∈ a.ps, o.1 = (cutS m).1
theorem nameB_size {s : ByteArray} (h : nameB s = true) : 1 ≤ s.size ∧ s.size ≤ 20 := by
 unfold nameB at h
 rw [Bool.and_eq_true] at h
 have := of_decide_eq_true h.1
 omega
structure RegV (B R : Nat) (vb : Value) (a : RegA) (g : RegS) (vp : Value) (W : World) : Prop where
 ra : RegAt B R g vb vp W
 abs : g.abs = a
 lf : ∀ q ∈ g.qs, q.life = lifeOf q.nm (evsOf q.es) ∧ q.hd = headOf g.pt q.nm q.es
def OwnR (R : Nat) (g : RegS) (vp : Value) (k : Nat) : Prop := k = R ∨ vp.ownBlock = some k ∨ ∃ q ∈ g.qs, q.ve.ownBlock = some k
def NoS (k : Nat) (g : RegS) : Prop := ∀ q ∈ g.qs, (q.life.ms ≠ [] → q.vm.ownBlock ≠ some k) ∧ (q.life.os ≠ [] → q.vo.ownBlock ≠ some k)
structure Moved (R : Nat) (g : RegS) (vp : Value) (g' : RegS) (vp' : Value) (w W : World) : Prop where
 kp : KeepB (OwnR R g vp) w W
 own : ∀ k, OwnR R g' vp' k → OwnR R g vp k ∨ w.heap.size ≤ k
 ns : ∀ k, k < w.heap.size → NoS k g → NoS k g'
section
variable {B R : Nat} {g g1 g2 : RegS} {vb vp vp1 vp2 : Value} {a : RegA} {w w1 w2 W : World}
theorem Moved.refl : Moved R g vp g vp w w := ⟨KeepB.of_below (Below.refl _ _), fun _ h => Or.inl h, fun _ _ h => h⟩
theorem Moved.of_below (h : Below w.heap.size w W) : Moved R g vp g vp w W := ⟨KeepB.of_below h, fun _ h => Or.inl h, fun _ _ h => h⟩
theorem Moved.trans (h1 : Moved R g vp g1 vp1 w w1) (h2 : Moved R g1 vp1 g2 vp2 w1 w2) : Moved R g vp g2 vp2 w w2 := by
 refine ⟨⟨h2.kp.os.trans h1.kp.os, h2.kp.tape.trans h1.kp.tape, h2.kp.output.trans h1.kp.output, Nat.le_trans h1.kp.size h2.kp.size, fun k hk hn => ?_⟩, fun k hk => ?_, fun k hk hn => h2.ns k (Nat.lt_of_lt_of_le hk h1.kp.size) (h1.ns k hk hn)⟩
 ·rw [h2.kp.block k (Nat.lt_of_lt_of_le hk h1.kp.size) (fun c => ?_), h1.kp.block k hk hn]
  rcases h1.own k c with c | c
  ·exact hn c
  ·omega
 ·rcases h2.own k hk with c | c
  ·exact h1.own k c
  ·exact Or.inr (Nat.le_trans h1.kp.size c)
theorem Moved.step (h : Moved R g vp g1 vp1 w w1) (hb : Below w1.heap.size w1 W) : Moved R g vp g1 vp1 w W := h.trans (Moved.of_below hb)
theorem Moved.pre (hb : Below w.heap.size w w1) (h : Moved R g vp g1 vp1 w1 W) : Moved R g vp g1 vp1 w W := (Moved.of_below hb).trans h
theorem RegAt.ownT (h : RegAt B R g vb vp w) {k : Nat} (hk : OwnR R g vp k) : B ≤ k ∧ k < w.heap.size ∧ ∃ cs T fr, w.heap[k]? = some (.cells cs T fr) ∧ (T = 121 ∨ T = 116 ∨ T = 31) := by
 rcases hk with rfl | hk | ⟨q, hq, hk⟩
 ·exact ⟨h.hB, blk_lt h.reg, _, _, _, h.reg, Or.inl rfl⟩
 ·obtain ⟨h1, c, e⟩ := own_typed h.row hk
  exact ⟨h1, blk_lt e, _, _, _, e, Or.inr (Or.inl rfl)⟩
 ·obtain ⟨h1, c, e⟩ := own_typed (h.es q hq) hk
  exact ⟨h1, blk_lt e, _, _, _, e, Or.inr (Or.inr rfl)⟩
theorem Moved.keepT (h : RegAt B R g vb vp w) (m : Moved R g vp g1 vp1 w W) : KeepT w W := fun b cs T fr e n1 n2 n3 => by
 refine (m.kp.block b (blk_lt e) (fun c => ?_)).trans e
 obtain ⟨-, -, cs2, T2, fr2, e2, hT⟩ := h.ownT c
 rw [e] at e2
 cases e2
 rcases hT with rfl | rfl | rfl
 ·exact n1 rfl
 ·exact n2 rfl
 ·exact n3 rfl
theorem Moved.below (h : RegAt B R g vb vp w) (hB : B ≤ w.heap.size) (m : Moved R g vp g1 vp1 w W) : Below B w W :=
 ⟨m.kp.os, m.kp.tape, m.kp.output, m.kp.size, fun k hk => m.kp.block k (Nat.lt_of_lt_of_le hk hB) (fun c => by have := (h.ownT c).1; omega)⟩
def RegN (B R : Nat) (vb : Value) (a' : RegA) (g : RegS) (vp : Value) (w W : World) : Prop := ∃ g' vp', RegV B R vb a' g' vp' W ∧ Moved R g vp g' vp' w W
theorem RegV.step (h : RegV B R vb a g vp w) (hb : Below w.heap.size w W) : RegV B R vb a g vp W := ⟨h.ra.step hb, h.abs, h.lf⟩
theorem RegV.stay (h : RegV B R vb a g vp w) (hb : Below w.heap.size w W) : RegN B R vb a g vp w W := ⟨g, vp, h.step hb, Moved.of_below hb⟩
theorem RegN.pre {a' : RegA} (hb : Below w.heap.size w w1) (h : RegN B R vb a' g vp w1 W) : RegN B R vb a' g vp w W := by
 obtain ⟨g', vp', h1, h2⟩ := h
 exact ⟨g', vp', h1, h2.pre hb⟩
theorem RegN.step {a' : RegA} (h : RegN B R vb a' g vp w w1) (hb : Below w1.heap.size w1 W) : RegN B R vb a' g vp w W := by
 obtain ⟨g', vp', h1, h2⟩ := h
 exact ⟨g', vp', h1.step hb, h2.step hb⟩
theorem RegV.ps (h : RegV B R vb a g vp w) : a.ps = g.qs.map fun q => (q.nm, q.es) := by rw [← h.abs]; rfl
theorem RegV.len (h : RegV B R vb a g vp w) : g.qs.length = a.ps.length := by rw [h.ps, List.length_map]
theorem RegV.get (h : RegV B R vb a g vp w) {i : Nat} {p : ByteArray × List Ent} (hp : a.ps[i]? = some p) : ∃ q, g.qs[i]? = some q ∧ q.nm = p.1 ∧ q.es = p.2 ∧ q.life = Go.Proofs.YtmpilgkfbibhlaaGreatDoor.lf p ∧ q.hd = headOf a.pt p.1 p.2 := by
 rw [h.ps, List.getElem?_map] at hp
 cases hq : g.qs[i]? with
 | none => rw [hq] at hp; cases hp
 | some q =>
  rw [hq] at hp
  obtain rfl : (q.nm, q.es) = p := Option.some.inj hp
  obtain ⟨h1, h2⟩ := h.lf q (List.mem_of_getElem? hq)
  exact ⟨q, rfl, rfl, rfl, h1, by rw [h2, ← h.abs]; rfl⟩
theorem RegV.put (h : RegV B R vb a g vp w) {i : Nat} {q : PkV} (hq : g.qs[i]? = some q) : a.ps[i]? = some (q.nm, q.es) := by rw [h.ps, List.getElem?_map, hq]; rfl
theorem findIdx_congr2 {α : Type} {p q : α → Bool} : ∀ {l : List α}, (∀ x ∈ l, p x = q x) → l.findIdx p = l.findIdx q
 | [], _ => rfl
 | x :: l, h => by
  rw [List.findIdx_cons, List.findIdx_cons, h x (by simp), findIdx_congr2 fun y hy => h y (by simp [hy])]
theorem RegV.find (h : RegV B R vb a g vp w) (nm : ByteArray) : findK nm g.qs = findA nm a := by
 unfold findK findA
 rw [h.ps, List.findIdx_map]
 rfl
theorem RegV.whr (h : RegV B R vb a g vp w) (m : ByteArray) : whereK m g.qs = whereA m a := by
 unfold whereK whereA
 rw [h.ps, List.findIdx_map]
 refine findIdx_congr2 fun q hq => ?_
 show hasT q.life.ms m = hasT (lifeOf q.nm (evsOf q.es)).ms m
 rw [(h.lf q hq).1]
theorem OkB.us5 (h : OkB a) (k : Nat) : a.used.getD k 0 ≤ 5000 := by
 refine Nat.le_trans (h.us k) ?_
 obtain ⟨-, -, hbk⟩ := secR_ok h.sec
 rw [List.getD_eq_getElem?_getD]
 cases hk : a.bks[k]? with
 | none => exact Nat.zero_le _
 | some bk => exact (hbk bk (List.mem_of_getElem? hk)).2.1
theorem RegV.ok (h : RegV B R vb a g vp w) (ho : OkB a) : RegOk g := by
 obtain ⟨h1, h2, h3⟩ := h
 subst h2
 refine ⟨ho.sec, ho.us5, by have := ho.np; simpa [RegS.abs] using this, fun q hq => ?_⟩
 obtain ⟨q1, q2, q3, q4⟩ := ho.p (q.nm, q.es) (List.mem_map.2 ⟨q, hq, rfl⟩)
 exact ⟨q1, q2, q3, (nameB_size q4).2, (h3 q hq).1, (h3 q hq).2⟩
end
end Go.Proofs.YtmpilgkfbibhlaaGreatDoor
