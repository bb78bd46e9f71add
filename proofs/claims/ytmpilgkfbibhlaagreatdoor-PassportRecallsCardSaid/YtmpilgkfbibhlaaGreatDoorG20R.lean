/-
 What Verify answers, step by step: plain Lean.
-/
import Derived.Test.YtmpilgkfbibhlaaGreatDoorG18R
import Derived.Test.YtmpilgkfbibhlaaGreatDoorG19R
import Derived.Test.YtmpilgkfbibhlaaGreatDoorG2R
import Derived.Test.YtmpilgkfbibhlaaGreatDoorG5R
import Derived.Deep.Cut
import Derived.Test.YtmpilgkfbibhlaaGreatDoorG0R
import Derived.Laws.StructEq
import Derived.KernelRfl
import Derived.Deep.QuietTactic
set_option linter.unusedSimpArgs false
set_option linter.unusedVariables false
namespace Go.Proofs.YtmpilgkfbibhlaaGreatDoor
open Go
structure LifeN (x : LifeS) : Prop where
 thr : 0 ≤ x.thr ∧ x.thr ≤ (x.n : Int) * 1099511627776
 hot : 0 ≤ x.hot ∧ x.hot ≤ (x.n : Int) * 1099511627776
 fau : 0 ≤ x.fau ∧ x.fau ≤ (x.n : Int)
 mov : 0 ≤ x.mov ∧ x.mov ≤ (x.n : Int)
 ms : x.ms.length ≤ 32 * x.n
 os : x.os.length ≤ x.n
theorem LifeN.zero : LifeN life0 := ⟨⟨by decide, by decide⟩, ⟨by decide, by decide⟩, ⟨by decide, by decide⟩, ⟨by decide, by decide⟩, by decide, by decide⟩
theorem dropT_len (l : List ByteArray) (s : ByteArray) : (dropT l s).length ≤ l.length := List.length_filter_le _ l
theorem LifeN.add {x : LifeS} (h : LifeN x) (name : ByteArray) {e : Evt} (hok : okX e = true) : LifeN (x.add name e) := by
 obtain ⟨k, t, a, b, nm, ot⟩ := e
 obtain ⟨he, -, -⟩ := okE_ev hok
 have hk := he.k
 have ha := he.a
 have hb := he.b
 change 1 ≤ k ∧ k ≤ 9 at hk
 change 0 ≤ a ∧ a ≤ 1099511627776 at ha
 change 0 ≤ b ∧ b ≤ 1099511627776 at hb
 have hm : k = 1 → b ≤ 32 := fun e1 => by subst e1; exact (made_b hok).2
 clear he
 obtain ⟨h1, h2, h3, h4, h5, h6⟩ := h
 have ht : ((x.add name (k, t, a, b, nm, ot)).n : Int) = (x.n : Int) + 1 := by simp [LifeS.add]
 have hn : (x.add name (k, t, a, b, nm, ot)).n = x.n + 1 := rfl
 refine ⟨?_, ?_, ?_, ?_, ?_, ?_⟩
 ·rw [ht]; show 0 ≤ (if k = 2 then x.thr + a else x.thr) ∧ (if k = 2 then x.thr + a else x.thr) ≤ _; split <;> omega
 ·rw [ht]; show 0 ≤ (if k = 2 then x.hot + b else x.hot) ∧ (if k = 2 then x.hot + b else x.hot) ≤ _; split <;> omega
 ·rw [ht]; show 0 ≤ (if k = 4 then x.fau + 1 else x.fau) ∧ (if k = 4 then x.fau + 1 else x.fau) ≤ _; split <;> omega
 ·rw [ht]; show 0 ≤ (if k = 5 then x.mov + 1 else if k = 6 then x.mov + 1 else x.mov) ∧ (if k = 5 then x.mov + 1 else if k = 6 then x.mov + 1 else x.mov) ≤ _
  split
  ·omega
  ·split <;> omega
 ·rw [hn]
  show (modStep name x.ms (k, t, a, b, nm, ot)).length ≤ _
  unfold modStep
  dsimp only
  split
  ·rename_i c
   have := hm c
   simp only [List.length_append, List.length_map, List.length_range]; omega
  ·split
   ·simp only [List.length_append, List.length_singleton]; omega
   ·split
    ·have := dropT_len x.ms nm; omega
    ·omega
 ·rw [hn]
  show (opnStep x.os (k, t, a, b, nm, ot)).length ≤ _
  unfold opnStep
  dsimp only
  split
  ·simp only [List.length_append, List.length_singleton]; omega
  ·split
   ·have := dropT_len x.os nm; omega
   ·omega
theorem lifeOf_N (name : ByteArray) : ∀ h : List Evt, (∀ e ∈ h, okX e = true) → LifeN (lifeOf name h) := by
 refine snocInd (fun _ => LifeN.zero) fun h e ih hh => ?_
 rw [lifeOf_snoc]
 exact (ih fun e' he' => hh e' (List.mem_append_left _ he')).add name (hh e (by simp))
theorem LifeN.lifeB {x : LifeS} (h : LifeN x) (hn : x.n ≤ 1000) : LifeB x ∧ x.ms.length ≤ 100000 ∧ x.os.length ≤ 100000 := by
 obtain ⟨h1, h2, h3, h4, h5, h6⟩ := h
 refine ⟨⟨by omega, ⟨h1.1, by omega⟩, ⟨h2.1, by omega⟩, ⟨h3.1, by omega⟩, ⟨h4.1, by omega⟩⟩, by omega, by omega⟩
section
variable {pt : Nat} {bks : List Bk} {name : ByteArray} {l : List Ent} {n : Nat}
theorem AllR.zero : AllR pt bks name l 0 := fun i hi => absurd hi (Nat.not_lt_zero i)
theorem AllR.snoc {x : Ent} (h : AllR pt bks name l n) (hx : l[n]? = some x) (hr : rightB pt bks name (l.take n) x = true) : AllR pt bks name l (n + 1) := by
 intro i hi
 by_cases c : i < n
 ·exact h i c
 ·obtain rfl : i = n := by omega
  exact ⟨x, hx, hr⟩
theorem rightB_ok {pre : List Ent} {x : Ent} (h : rightB pt bks name pre x = true) : okX x.1 = true ∧ canR name (evsOf pre) x.1 = true := by
 unfold rightB at h
 simp only [Bool.and_eq_true] at h
 exact ⟨h.1.1.1.1, h.1.1.1.2⟩
theorem AllR.leg (h : AllR pt bks name l n) (hn : n ≤ l.length) : LegH name (evsOf (l.take n)) ∧ ∀ e ∈ evsOf (l.take n), okX e = true := by
 induction n with
 | zero => exact ⟨LegH.nil name, fun e he => by simp [evsOf] at he⟩
 | succ n ih =>
  obtain ⟨q1, q2⟩ := ih (fun i hi => h i (Nat.lt_succ_of_lt hi)) (by omega)
  obtain ⟨x, hx, hr⟩ := h n (Nat.lt_succ_self n)
  obtain ⟨r1, r2⟩ := rightB_ok hr
  have e : evsOf (l.take (n + 1)) = evsOf (l.take n) ++ [x.1] := by rw [List.take_add_one, hx]; unfold evsOf; rw [List.map_append]; rfl
  rw [e]
  refine ⟨q1.snoc r2, fun e' he' => ?_⟩
  rcases List.mem_append.1 he' with he' | he'
  ·exact q2 e' he'
  ·rw [List.mem_singleton.1 he']; exact r1
theorem AllR.ver (h : AllR pt bks name l n) (hn : n ≤ l.length) : verN pt bks name [] l = verN pt bks name (l.take n) (l.drop n) := by
 induction n with
 | zero => rfl
 | succ n ih =>
  rw [ih (fun i hi => h i (Nat.lt_succ_of_lt hi)) (by omega)]
  obtain ⟨x, hx, hr⟩ := h n (Nat.lt_succ_self n)
  have hd : l.drop n = x :: l.drop (n + 1) := by
   have hlt : n < l.length := by omega
   rw [List.drop_eq_getElem_cons hlt]
   rw [List.getElem?_eq_getElem hlt] at hx
   rw [Option.some.inj hx]
  rw [hd, verN_go hr, List.take_add_one, hx]
  rfl
theorem AllR.all (h : AllR pt bks name l l.length) : verN pt bks name [] l = l.length := by
 rw [h.ver (Nat.le_refl _), List.take_length, List.drop_length]
 rfl
end
theorem secR_ok {pt : Nat} {bks : List Bk} (h : secR pt bks = 0) : (1 ≤ pt ∧ pt < P31) ∧ (1 ≤ bks.length ∧ bks.length ≤ 8) ∧ ∀ bk ∈ bks, (1 ≤ bk.1 ∧ bk.1 < P31) ∧ bk.2.length ≤ 5000 ∧ ∀ n ∈ bk.2, n < P31 := by
 unfold secR at h
 split at h
 ·cases h
 ·rename_i c1
  split at h
  ·cases h
  ·rename_i c2
   refine ⟨by omega, by omega, fun bk hbk => ?_⟩
   have hb : badBk bk = false := by
    cases hq : badBk bk with
    | false => rfl
    | true => exact absurd (Or.inr (Or.inr (List.any_eq_true.2 ⟨bk, hbk, hq⟩))) c2
   obtain ⟨p, ps⟩ := bk
   unfold badBk at hb
   simp only [Bool.or_eq_false_iff, decide_eq_false_iff_not, List.any_eq_false, decide_eq_true_eq] at hb
   obtain ⟨⟨⟨b1, b2⟩, b3⟩, b4⟩ := hb
   exact ⟨⟨by show 1 ≤ p; omega, by show p < P31; omega⟩, by show ps.length ≤ 5000; omega, fun n hn => by have := b4 n hn; omega⟩
theorem headOf_snoc (pt : Nat) (name : ByteArray) (pre : List Ent) (y : Ent) : headOf pt name (pre ++ [y]) = y.2.2.2.1 := by unfold headOf; simp
end Go.Proofs.YtmpilgkfbibhlaaGreatDoor
namespace Go.Proofs.YtmpilgkfbibhlaaGreatDoor
open Go.RowKit Mr
def evtC : Evt → List Value
 | (k, t, a, b, nm, ot) => [.int .i64 k, .int .i64 t, .int .i64 a, .int .i64 b, .string nm, .string ot]
theorem evtC_len (e : Evt) : (evtC e).length = 6 := by obtain ⟨k, t, a, b, nm, ot⟩ := e; rfl
def EvAt (a : Option Addr) (h : List Evt) (W : World) : Prop := h ≠ [] → ∃ b off, a = some ⟨b, off, none⟩ ∧ b < W.heap.size ∧ ∀ (k : Nat) (e : Evt), h[k]? = some e → ∀ (j : Nat) (u : Value), (evtC e)[j]? = some u → W.cell? ⟨b, off + k * 6 + j, none⟩ = some u
theorem EvAt.step {a : Option Addr} {h : List Evt} {W w2 : World} (hh : EvAt a h W) (hb : Below W.heap.size W w2) : EvAt a h w2 := by
 intro hn
 obtain ⟨b, off, e1, e2, e3⟩ := hh hn
 exact ⟨b, off, e1, Nat.lt_of_lt_of_le e2 hb.size, fun k y hk j u hj => cell_step (e3 k y hk j u hj) hb⟩
end Go.Proofs.YtmpilgkfbibhlaaGreatDoor
namespace Go.Proofs.YtmpilgkfbibhlaaGreatDoor
open Go.RowKit Mr
theorem infoEv : (Tryz.prog.info? 29).map (fun i => (i.zero, i.size, i.bytes)) = some (some (.agg #[.int .i64 0, .int .i64 0, .int .i64 0, .int .i64 0, .string ⟨#[]⟩, .string ⟨#[]⟩]), 6, 64) := by kernel_rfl
def flatE (h : List Evt) : List Value := h.flatMap evtC
theorem flatE_snoc (h : List Evt) (e : Evt) : flatE (h ++ [e]) = flatE h ++ evtC e := by unfold flatE; simp
theorem flatE_at {h : List Evt} {k j : Nat} {e : Evt} {u : Value} (hk : h[k]? = some e) (hj : (evtC e)[j]? = some u) : (flatE h)[k * 6 + j]? = some u := by
 induction h generalizing k with
 | nil => cases hk
 | cons e0 h ih =>
  unfold flatE
  rw [List.flatMap_cons]
  have hj6 : j < 6 := by have := (List.getElem?_eq_some_iff.1 hj).1; rwa [evtC_len] at this
  cases k with
  | zero =>
   have : e0 = e := by simpa using hk
   subst this
   rw [Nat.zero_mul, Nat.zero_add, List.getElem?_append_left (by rw [evtC_len]; exact hj6)]
   exact hj
  | succ k =>
   rw [List.getElem?_append_right (by rw [evtC_len]; omega), evtC_len]
   have := ih (k := k) (by simpa using hk)
   unfold flatE at this
   rw [show (k + 1) * 6 + j - 6 = k * 6 + j by omega]
   exact this
theorem evtC_one (e : Evt) : ∀ u ∈ evtC e, u.oneCell' = true := by
 obtain ⟨k, t, a, b, nm, ot⟩ := e
 intro u hu
 simp only [evtC, List.mem_cons, List.not_mem_nil, or_false] at hu
 rcases hu with rfl | rfl | rfl | rfl | rfl | rfl <;> rfl
theorem new_cells6 {W : World} {cs : List Value} {t : TypeId} {n : Nat} : n * 6 ≠ 0 → ∃ p off, (some (⟨W.heap.size, 0, none⟩ : Addr)) = some ⟨p, off, none⟩ ∧ ∀ (j : Nat) (u : Value), cs[j]? = some u → (W.alloc (.cells cs.toArray t)).cell? ⟨p, off + j, none⟩ = some u := fun _ =>
 ⟨_, 0, rfl, fun j u hu => blk_cell (blk_new W _) (by rw [Nat.zero_add]; simpa using hu)⟩
end Go.Proofs.YtmpilgkfbibhlaaGreatDoor
