/-
 The law of recalls: plain Lean.
-/
import Derived.Test.YtmpilgkfbibhlaaGreatDoorG36R
import Derived.Test.YtmpilgkfbibhlaaGreatDoorG28R
import Derived.Test.YtmpilgkfbibhlaaGreatDoorG22R
import Derived.Test.YtmpilgkfbibhlaaGreatDoorG13R
import Derived.Great.Walk
import Derived.Deep.CutBlock
import Derived.Test.YtmpilgkfbibhlaaGreatDoorG34R
import Derived.Test.YtmpilgkfbibhlaaGreatDoorG31R
set_option linter.unusedSimpArgs false
set_option linter.unusedVariables false
namespace Go.Proofs.YtmpilgkfbibhlaaGreatDoor
open Go
def affL (S : WdS) (b u : Nat) : List Nat := affA S.a (batchP b) 0 (u : Int) fireT
def hitL (S : WdS) (b u : Nat) (m : ByteArray) : Bool := hitA S.a (batchP b) 0 (u : Int) m
def recL (S : WdS) (b u : Nat) : RegA := recsA S.at_ fireT 0 (affL S b u) S.a
theorem filt1 {α : Type} (f : α → Bool) (x : α) : [x].filter f = if f x = true then [x] else [] := by
 rw [List.filter_cons]
 rfl
theorem filt_flat {α β : Type} {g : α → List β} {f : Nat → Bool} : ∀ l : List α, (∀ (i : Nat) (p : α), l[i]? = some p → f i = true → 1 ≤ (g p).length) → ((List.range l.length).filter f).length ≤ (l.flatMap g).length := by
 refine snocInd (fun _ => Nat.le_refl _) fun l x ih h => ?_
 have h1 := ih fun i p hp => h i p (by rw [List.getElem?_append_left (List.getElem?_eq_some_iff.1 hp).1]; exact hp)
 have h2 := h l.length x (by simp)
 rw [List.length_append, List.length_singleton, List.range_succ, List.filter_append, List.flatMap_append, List.length_append, List.length_append]
 have h3 : ([l.length].filter f).length ≤ ([x].flatMap g).length := by
  rw [filt1]
  split
  ·rename_i c
   have := h2 (by simpa using c)
   simpa using this
  ·exact Nat.zero_le _
 omega
theorem aff_mem {a : RegA} {bt : ByteArray} {t0 t1 : Int} {r : ByteArray} {k : Nat} {p : ByteArray × List Ent} (hp : a.ps[k]? = some p) : k ∈ affA a bt t0 t1 r ↔ affP a bt t0 t1 r p = true := by
 unfold affA
 rw [List.mem_filter, hp]
 have := (List.getElem?_eq_some_iff.1 hp).1
 constructor
 ·exact fun h => h.2
 ·exact fun h => ⟨List.mem_range.2 this, h⟩
theorem aff_pack {a : RegA} {bt : ByteArray} {t0 t1 : Int} {r : ByteArray} {k : Nat} (h : k ∈ affA a bt t0 t1 r) : ∃ p, a.ps[k]? = some p ∧ packA a k = p ∧ affP a bt t0 t1 r p = true := by
 have h2 := h
 unfold affA at h2
 have hk := List.mem_range.1 (List.mem_filter.1 h2).1
 have hp : a.ps[k]? = some a.ps[k] := List.getElem?_eq_getElem hk
 exact ⟨_, hp, by unfold packA; rw [List.getD_eq_getElem?_getD, hp]; rfl, (aff_mem hp).1 h⟩
theorem rec_code {S : WdS} {i b u s : Nat} (ho : OkW S i) (hi : i ≤ 50) (hr : RcW S i) (hv : VerI S.a) (hb : S.a.bks = booksW s 3) (hu : u < 256) :
  recallA S.a 0 S.at_ (batchP b) 0 (u : Int) fireT = (0, (affL S b u).map (nameA S.a), recL S b u) := by
 have h3 : S.a.bks.length = 3 := by rw [hb, booksW_len]
 have hat := ho.at_
 have hct := hr.ct
 have hd : S.a.bks.getD 0 (0, []) = bookW s 0 := by rw [hb]; rfl
 have hbl : (bookW s 0).2.length = 400 := padsW_len s 0 400
 have hall : (allE S.a).length ≤ cntA S.a := Nat.le_add_right _ _
 have hpad := hv.pd.ct
 have hlen : (affL S b u).length ≤ (S.a.ps.flatMap shutP).length := by
  refine filt_flat S.a.ps fun j p hp hf => ?_
  rw [hp] at hf
  have hf2 : affP S.a (batchP b) 0 (u : Int) fireT p = true := hf
  unfold affP at hf2
  rw [Bool.and_eq_true, Bool.not_eq_true'] at hf2
  unfold shutP
  rw [hf2.1]
  exact Nat.le_refl 1
 have hsum : (allE S.a).length + (S.a.ps.flatMap shutP).length = cntA S.a := rfl
 have hleft : leftA S.a 0 = 400 - (S.a.used.getD 0 0 : Nat) := by
  have := leftA_at (a := S.a) (n := 0) (by omega)
  rw [hd, hbl] at this
  exact this
 rw [recallA_3 ⟨Int.le_refl _, by omega⟩ ⟨batchP_ok b, fire_ok, decide_eq_true (by omega), by decide, decide_eq_true (by omega)⟩, if_neg, if_neg, if_neg]
 ·rfl
 ·show ¬ leftA S.a 0 < ((affL S b u).length : Int)
  omega
 ·intro c
  obtain ⟨k, hk, c⟩ := List.any_eq_true.1 c
  obtain ⟨p, hp, e, -⟩ := aff_pack hk
  rw [e] at c
  have c := of_decide_eq_true c
  have : p.2.length ≤ (allE S.a).length := by
   obtain ⟨l1, l2, e2⟩ := List.append_of_mem (List.mem_of_getElem? hp)
   unfold allE
   rw [e2, List.flatMap_append, List.flatMap_cons, List.length_append, List.length_append]
   omega
  omega
 ·intro c
  obtain ⟨k, hk, c⟩ := List.any_eq_true.1 c
  obtain ⟨p, hp, e, -⟩ := aff_pack hk
  rw [e] at c
  have c := of_decide_eq_true c
  have := hr.rc.tm p (List.mem_of_getElem? hp)
  omega
theorem recs_pack {a : RegA} {t : Int} {n : Nat} : ∀ l : List Nat, ∀ (k : Nat) (p : ByteArray × List Ent), a.ps[k]? = some p → ∃ q, (recsA t fireT n l a).ps[k]? = some q ∧ q.1 = p.1 ∧ (lf q).ms = (lf p).ms ∧ fireP (evsOf q.2) = (fireP (evsOf p.2) || decide (k ∈ l)) := by
 refine snocInd (fun k p hp => ⟨p, hp, rfl, rfl, by simp⟩) fun l i ih k p hp => ?_
 obtain ⟨q, h1, h2, h3, h4⟩ := ih k p hp
 have hs : recsA t fireT n (l ++ [i]) a = putA (recsA t fireT n l a) n i (recE t fireT) := by unfold recsA; rw [List.foldl_append]; rfl
 rw [hs]
 by_cases c : k = i
 ·subst c
  refine ⟨_, putA_eq h1, h2, ?_, ?_⟩
  ·rw [lf_put, ms_same ⟨show (7 : Int) ≠ 1 by decide, show (7 : Int) ≠ 5 by decide, show (7 : Int) ≠ 6 by decide⟩]
   exact h3
  ·show fireP (evsOf (q.2 ++ [newE (recsA t fireT n l a) n (recE t fireT) q])) = _
   have hn : (newE (recsA t fireT n l a) n (recE t fireT) q).1.1 = 7 := rfl
   rw [evs_snoc, fireP_snoc, hn, if_neg (show ¬ (7 : Int) = 8 by decide), if_pos rfl]
   simp
 ·refine ⟨q, by rw [putA_ne c]; exact h1, h2, h3, ?_⟩
  rw [h4]
  congr 1
  simp [c]
theorem rec_law {S : WdS} {i b u k : Nat} {p : ByteArray × List Ent} (hr : RcW S i) (hp : S.a.ps[k]? = some p) :
  decide (k ∈ affL S b u) = ((lf p).ms.any (hitL S b u) && !fireP (evsOf p.2)) := by
 have h1 : decide (k ∈ affL S b u) = affP S.a (batchP b) 0 (u : Int) fireT p := by
  unfold affL
  cases h : affP S.a (batchP b) 0 (u : Int) fireT p with
  | true => exact decide_eq_true ((aff_mem hp).2 h)
  | false => exact decide_eq_false (fun c => by rw [aff_mem hp, h] at c; cases c)
 rw [h1]
 unfold affP
 rw [hr.rc.op p (List.mem_of_getElem? hp), Bool.and_comm]
 rfl
def affN (S : WdS) (b u k : Nat) : Nat := ((List.range k).filter fun j => decide (j ∈ affL S b u)).length
theorem affN_succ (S : WdS) (b u k : Nat) : affN S b u (k + 1) = affN S b u k + if k ∈ affL S b u then 1 else 0 := by
 unfold affN
 rw [List.range_succ, List.filter_append, List.length_append, filt1]
 by_cases h : k ∈ affL S b u
 ·rw [if_pos h, if_pos (decide_eq_true h)]; rfl
 ·rw [if_neg h, decide_eq_false h]; rfl
theorem affL_eq (S : WdS) (b u : Nat) : affL S b u = (List.range S.a.ps.length).filter fun j => decide (j ∈ affL S b u) := by
 have h : ∀ j ∈ List.range S.a.ps.length, decide (j ∈ affL S b u) = (match S.a.ps[j]? with
  | some p => affP S.a (batchP b) 0 (u : Int) fireT p
  | none => false) := fun j hj => by
  have hj := List.mem_range.1 hj
  have hp : S.a.ps[j]? = some S.a.ps[j] := List.getElem?_eq_getElem hj
  rw [hp]
  show decide (j ∈ affL S b u) = affP S.a (batchP b) 0 (u : Int) fireT S.a.ps[j]
  cases h : affP S.a (batchP b) 0 (u : Int) fireT S.a.ps[j] with
  | true => exact decide_eq_true ((aff_mem hp).2 h)
  | false => exact decide_eq_false (fun c => by have := (aff_mem hp).1 c; rw [h] at this; cases this)
 have h2 := List.filter_congr h
 rw [h2]
 rfl
theorem affN_all (S : WdS) (b u : Nat) : affN S b u S.a.ps.length = (affL S b u).length := by
 unfold affN
 rw [← affL_eq]
theorem affN_at {S : WdS} {b u k : Nat} (hk : k < S.a.ps.length) (h : k ∈ affL S b u) : (affL S b u)[affN S b u k]? = some k := by
 have e : S.a.ps.length = (k + 1) + (S.a.ps.length - (k + 1)) := by omega
 have e2 := affL_eq S b u
 rw [e, List.range_add, List.range_succ, List.filter_append, List.filter_append, filt1, decide_eq_true h, List.append_assoc] at e2
 rw [e2]
 unfold affN
 rw [List.getElem?_append_right (Nat.le_refl _), Nat.sub_self]
 rfl
theorem names_at {S : WdS} {i b u k : Nat} {q : ByteArray} (ho : OkW S i) (hq : S.packs[k]? = some q) (h : k ∈ affL S b u) : ((affL S b u).map (nameA S.a))[affN S b u k]? = some q := by
 obtain ⟨es, hp, -⟩ := ho.at hq
 rw [List.getElem?_map, affN_at (List.getElem?_eq_some_iff.1 hp).1 h]
 show some (nameA S.a k) = some q
 unfold nameA
 rw [List.getD_eq_getElem?_getD, hp]
 rfl
theorem mod_of {S : WdS} {i b u k : Nat} {p : ByteArray × List Ent} {m : ByteArray} (ho : OkW S i) (hm : ModW S) (hr : RcW S i) (hp : S.a.ps[k]? = some p) (hmm : m ∈ (lf p).ms) :
  ∃ k0 j t, ∃ bt : ByteArray, k0 < S.packs.length ∧ j < 5 ∧ m = digN (nameP k0) j ∧ S.bts[k0]? = some bt ∧ S.mds[k0]? = some t ∧ hitL S b u m = (eqT bt (batchP b) && decide (t ≤ (u : Int))) := by
 have h1 : m ∈ S.mods := hm.pm.mem_iff.1 (List.mem_flatMap.2 ⟨p, List.mem_of_getElem? hp, hmm⟩)
 obtain ⟨k0, j, hk, hj, rfl⟩ := ho.md m h1
 have hq : S.packs[k0]? = some (nameP k0) := by
  have h2 : S.packs[k0]? = some S.packs[k0] := List.getElem?_eq_getElem hk
  rw [h2, ho.nm k0 _ h2]
 obtain ⟨es, hp0, hf⟩ := ho.at hq
 obtain ⟨m1, m2⟩ := hr.mad k0 _ hp0
 have hc := (modN_mod (nameP_ok k0) (show j < 32 by omega)).2
 refine ⟨k0, j, _, _, hk, hj, (digN_mod _ (by omega)).symm, m1, m2, ?_⟩
 unfold hitL
 rw [hitA_at (by rw [hc, hf]; exact hp0), decide_eq_true (hr.mn _ (List.mem_of_getElem? m2)), Bool.and_true]
end Go.Proofs.YtmpilgkfbibhlaaGreatDoor
namespace Go.Proofs.YtmpilgkfbibhlaaGreatDoor
open Sx Go.RowKit Mr
section
variable {P : World → Prop} {A : Value → World → Prop} {C : Value → Value} {b0 b1 b2 b3 : Bool} {v0 v1 v2 v3 : Value} {W w2 : World}
end
def tup0 (v : Value) : Value := .tuple #[v, .int .i64 0]
theorem tup0_inj (x y : Value) (h : tup0 x = tup0 y) : x = y := by
 unfold tup0 at h
 simpa using h
end Go.Proofs.YtmpilgkfbibhlaaGreatDoor
namespace Go.Proofs.YtmpilgkfbibhlaaGreatDoor
open Sx Go.RowKit Mr
structure CbV (P : World → Prop) (A0 A : Value → World → Prop) (C : Value → Value) (b0 b1 b2 b3 b4 : Bool) (v0 v1 v2 v3 v4 : Value) (W : World) : Prop where
 p : P W
 y : b0 = true → A0 v0 W
 x : ∃ v', (b1 = true → v1 = C v' ∧ A v' W) ∧ (b2 = true → v2 = C v') ∧ (b3 = true → v3 = v') ∧ (b4 = true → v4 = v')
 n0 : b0 = false → b1 = false
 n1 : b1 = false → b2 = false
 n2 : b2 = false → b3 = false
 n3 : b3 = false → b4 = false
section
variable {P : World → Prop} {A0 A : Value → World → Prop} {C : Value → Value} {b0 b1 b2 b3 b4 : Bool} {v0 v1 v2 v3 v4 v' : Value} {W w2 : World}
theorem CbV.start (h : P W) : CbV P A0 A C false false false false false v0 v1 v2 v3 v4 W := ⟨h, (fun e => by cases e), ⟨.bool false, (fun e => by cases e), (fun e => by cases e), (fun e => by cases e), (fun e => by cases e)⟩, fun _ => rfl, fun _ => rfl, fun _ => rfl, fun _ => rfl⟩
theorem CbV.mk0 (h : CbV P A0 A C false b1 b2 b3 b4 v0 v1 v2 v3 v4 W) (hp : P w2) (ha : A0 v' w2) : CbV P A0 A C true b1 b2 b3 b4 v' v1 v2 v3 v4 w2 := by
 have h1 := h.n0 rfl
 subst h1
 have h2 := h.n1 rfl
 subst h2
 have h3 := h.n2 rfl
 subst h3
 have h4 := h.n3 rfl
 subst h4
 exact ⟨hp, (fun _ => ha), ⟨.bool false, (fun e => by cases e), (fun e => by cases e), (fun e => by cases e), (fun e => by cases e)⟩, (fun e => by cases e), fun _ => rfl, fun _ => rfl, fun _ => rfl⟩
theorem CbV.mk1 (h : CbV P A0 A C true false b2 b3 b4 v0 v1 v2 v3 v4 W) (hp : P w2) (h0 : A0 v0 w2) (ha : A v' w2) : CbV P A0 A C true true b2 b3 b4 v0 (C v') v2 v3 v4 w2 := by
 have h2 := h.n1 rfl
 subst h2
 have h3 := h.n2 rfl
 subst h3
 have h4 := h.n3 rfl
 subst h4
 exact ⟨hp, (fun _ => h0), ⟨v', (fun _ => ⟨rfl, ha⟩), (fun e => by cases e), (fun e => by cases e), (fun e => by cases e)⟩, (fun e => by cases e), (fun e => by cases e), fun _ => rfl, fun _ => rfl⟩
theorem CbV.val1 (h : CbV P A0 A C b0 true b2 b3 b4 v0 v1 v2 v3 v4 W) : ∃ v', v1 = C v' := by
 obtain ⟨v', h1, -⟩ := h.x
 exact ⟨v', (h1 rfl).1⟩
theorem CbV.val2 (h : CbV P A0 A C b0 b1 true b3 b4 v0 v1 v2 v3 v4 W) : ∃ v', v2 = C v' := by
 obtain ⟨v', -, h1, -⟩ := h.x
 exact ⟨v', h1 rfl⟩
theorem CbV.mk2 (h : CbV P A0 A C b0 true false b3 b4 v0 v1 v2 v3 v4 W) : CbV P A0 A C b0 true true b3 b4 v0 v1 v1 v3 v4 W := by
 obtain ⟨v', h1, h2, h3, h4⟩ := h.x
 exact ⟨h.p, h.y, ⟨v', h1, (fun _ => (h1 rfl).1), h3, h4⟩, h.n0, (fun e => by cases e), (fun e => by cases e), h.n3⟩
theorem CbV.mk3 (hC : ∀ x y, C x = C y → x = y) (h : CbV P A0 A C b0 b1 true false b4 v0 v1 (C v2) v3 v4 W) : CbV P A0 A C b0 b1 true true b4 v0 v1 (C v2) v2 v4 W := by
 obtain ⟨v', h1, h2, h3, h4⟩ := h.x
 obtain rfl := hC _ _ (h2 rfl)
 exact ⟨h.p, h.y, ⟨_, h1, h2, (fun _ => rfl), h4⟩, h.n0, h.n1, (fun e => by cases e), (fun e => by cases e)⟩
theorem CbV.mk4 (h : CbV P A0 A C b0 b1 b2 true false v0 v1 v2 v3 v4 W) : CbV P A0 A C b0 b1 b2 true true v0 v1 v2 v3 v3 W := by
 obtain ⟨v', h1, h2, h3, h4⟩ := h.x
 exact ⟨h.p, h.y, ⟨v', h1, h2, h3, h3⟩, h.n0, h.n1, h.n2, (fun e => by cases e)⟩
theorem CbV.fin (h : CbV P A0 A C true true true true true v0 v1 v2 v3 v4 W) : P W ∧ v1 = C v4 ∧ v2 = C v4 ∧ v3 = v4 ∧ A v4 W := by
 obtain ⟨v', h1, h2, h3, h4⟩ := h.x
 obtain rfl := h4 rfl
 exact ⟨h.p, (h1 rfl).1, h2 rfl, h3 rfl, (h1 rfl).2⟩
end
def preM (a : RegA) (k : Nat) : List ByteArray := (a.ps.take k).flatMap fun p => (lf p).ms
theorem preM_snoc {a : RegA} {k : Nat} {p : ByteArray × List Ent} (h : a.ps[k]? = some p) : preM a (k + 1) = preM a k ++ (lf p).ms := by
 unfold preM
 rw [take_snoc h, List.flatMap_append]
 simp
theorem preM_part {a : RegA} {k : Nat} {p : ByteArray × List Ent} (h : a.ps[k]? = some p) : ∃ r, allM a = preM a k ++ (lf p).ms ++ r := by
 refine ⟨(a.ps.drop (k + 1)).flatMap fun p => (lf p).ms, ?_⟩
 rw [← preM_snoc h]
 unfold preM allM
 rw [← List.flatMap_append, List.take_append_drop]
theorem flatE_EvAt {B c : Nat} {a : Option Addr} {h : List Evt} {W : World} (ho : W.ownsRow B 29 6 (.slice a h.length c) h.length (flatE h)) : EvAt a h W := fun hn => by
 have hl : h.length ≠ 0 := fun e => hn (List.length_eq_zero_iff.1 e)
 obtain ⟨b, rfl, hb, hc⟩ := row_cells (b := 0) (c := c) ho hl
 refine ⟨b, 0, rfl, hb, fun k e hk j u hj => ?_⟩
 rw [Nat.zero_add]
 exact hc _ _ (flatE_at hk hj)
theorem OkA.legA {a : RegA} (ho : OkA a) {p : ByteArray × List Ent} (hp : p ∈ a.ps) : LegA p.1 (evsOf p.2) := by
 obtain ⟨h1, h2, h3, h4⟩ := ho.p p hp
 exact ⟨h4, by rw [evs_len]; exact h1, h2, h3⟩
def EvSl (es : List Ent) (v : Value) (W : World) : Prop := ∃ a c, v = .slice a (evsOf es).length c ∧ EvAt a (evsOf es) W
end Go.Proofs.YtmpilgkfbibhlaaGreatDoor
