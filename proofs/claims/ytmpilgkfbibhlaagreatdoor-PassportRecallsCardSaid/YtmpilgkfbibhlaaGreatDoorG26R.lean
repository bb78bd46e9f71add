/-
 enter at a registry as it is told.
-/
import Derived.Test.YtmpilgkfbibhlaaGreatDoorG25R
import Derived.Test.YtmpilgkfbibhlaaGreatDoorG17R
import Derived.Test.YtmpilgkfbibhlaaGreatDoorG4R
import Derived.Deep.Cut
import Derived.Test.YtmpilgkfbibhlaaGreatDoorG19R
import Derived.Test.YtmpilgkfbibhlaaGreatDoorG20R
import Derived.Test.YtmpilgkfbibhlaaGreatDoorG12R
import Derived.Deep.MidRow
set_option linter.unusedSimpArgs false
set_option linter.unusedVariables false
namespace Go.Proofs.YtmpilgkfbibhlaaGreatDoor
open Sx Go.RowKit Mr
theorem itoa2 (j : Nat) (hj : j < 32) : (Lib.itoa (j : Int)).length ≤ 2 := by
 have h : ∀ j : Nat, j < 32 → (Lib.itoa (j : Int)).length ≤ 2 := by decide +kernel
 exact h j hj
theorem modB_size {s : ByteArray} (h : modB s = true) : s.size ≤ 23 := by
 obtain ⟨j, hj, o, h1, h2⟩ := mod_mAt h
 have h3 := (nameB_size h2).2
 have h4 := itoa2 j hj
 rw [Lib.size_eq] at h3
 rw [Lib.size_eq, h1]
 simp at h3 ⊢
 omega
theorem okE_parts {k t a b : Int} {nm ot : ByteArray} (h : okE k t a b nm ot = true) : ((nm.toList == []) = true ∨ nameB nm = true ∨ modB nm = true) ∧ ((ot.toList == []) = true ∨ nameB ot = true ∨ modB ot = true) := by
 obtain ⟨he, -, -⟩ := okE_ev h
 have hk := he.k
 change 1 ≤ k ∧ k ≤ 9 at hk
 clear he
 have hk9 : k = 1 ∨ k = 2 ∨ k = 3 ∨ k = 4 ∨ k = 5 ∨ k = 6 ∨ k = 7 ∨ k = 8 ∨ k = 9 := by omega
 rcases hk9 with rfl | rfl | rfl | rfl | rfl | rfl | rfl | rfl | rfl
 all_goals
  unfold okE chkE chkB at h
  revert h
  generalize nameB nm = x1
  generalize modB nm = x2
  generalize nameB ot = x3
  generalize modB ot = x4
  generalize (nm.toList == []) = x5
  generalize (ot.toList == []) = x6
  cases x1 <;> cases x2 <;> cases x3 <;> cases x4 <;> cases x5 <;> cases x6 <;> simp
theorem part_size {s : ByteArray} (h : (s.toList == []) = true ∨ nameB s = true ∨ modB s = true) : s.size ≤ 23 := by
 rcases h with h | h | h
 ·have h1 : s.toList = [] := by simpa using h
  rw [Lib.toList_data] at h1
  rw [Lib.size_eq, h1]; simp
 ·have := nameB_size h; omega
 ·exact modB_size h
theorem okX_size {e : Evt} (h : okX e = true) : e.2.2.2.2.1.size ≤ 100 ∧ e.2.2.2.2.2.size ≤ 100 := by
 obtain ⟨k, t, a, b, nm, ot⟩ := e
 obtain ⟨h1, h2⟩ := okE_parts (show okE k t a b nm ot = true from h)
 have h1 := part_size h1
 have h2 := part_size h2
 exact ⟨by show nm.size ≤ 100; omega, by show ot.size ≤ 100; omega⟩
theorem evs_len (es : List Ent) : (evsOf es).length = es.length := by unfold evsOf; rw [List.length_map]
section
variable {B R n i u PB cp : Nat} {a : RegA} {g : RegS} {vb vp : Value} {w w' W : World} {p : ByteArray × List Ent} {q : PkV} {e : Evt}
theorem OkB.life (h : OkB a) (hp : p ∈ a.ps) : LifeB (lf p) ∧ (lf p).ms.length ≤ 100000 ∧ (lf p).os.length ≤ 100000 := by
 obtain ⟨h1, h2, h3, h4⟩ := h.p p hp
 refine (lifeOf_N p.1 (evsOf p.2) h3).lifeB ?_
 rw [life_n, evs_len]
 omega
theorem KeepB.mono {S S' : Nat → Prop} (h : KeepB S w W) (hS : ∀ k, S k → S' k) : KeepB S' w W := ⟨h.os, h.tape, h.output, h.size, fun k hk hn => h.block k hk fun c => hn (hS k c)⟩
theorem SRow.len_eq {v : Value} {l l' : List ByteArray} {W W' : World} (h : SRow v l W) (h' : SRow v l' W') : l.length = l'.length := by
 obtain ⟨a, c, e, -⟩ := h
 obtain ⟨a', c', e', -⟩ := h'
 rw [e] at e'
 injection e' with e1 e2 e3
def RegE (B R : Nat) (vb : Value) (a' : RegA) (g : RegS) (vp : Value) (w W : World) : Prop := ∃ g', RegV B R vb a' g' vp W ∧ Moved R g vp g' vp w W
theorem RegE.toN {a' : RegA} (h : RegE B R vb a' g vp w W) : RegN B R vb a' g vp w W := by
 obtain ⟨g', h1, h2⟩ := h
 exact ⟨g', vp, h1, h2⟩
theorem Entered.view (h : RegV B R vb a g vp w) (hvp : vp = .slice (some ⟨PB, 0, none⟩) g.qs.length cp) (hq : g.qs[i]? = some q) (hu : g.used.getD n 0 = u) (hE : Entered (fun vm' vo' => NewV w q.vm vm' ∧ NewV w q.vo vo') B R g vb vp PB i n u q (nextE g.pt g.bks q.hd e n u) e w w') : RegE B R vb (putA a n i e) g vp w w' := by
 obtain ⟨vm', vo', v', h1, h2, h3, h4, h5⟩ := hE
 obtain ⟨l1, l2⟩ := h.lf q (List.mem_of_getElem? hq)
 have hqm := List.mem_of_getElem? hq
 refine ⟨_, ⟨h1, ?_, fun x hx => ?_⟩, ⟨h2.mono fun k hk => ?_, fun k hk => ?_, fun k hk hN x hx => ?_⟩⟩
 ·rw [putA_at (h.put hq), ← h.abs]
  subst hu
  unfold RegS.abs putP
  dsimp only
  rw [List.map_set, ← l2]
 ·rcases mem_set hx with rfl | ⟨j, -, hj⟩
  ·dsimp only
   refine ⟨?_, (headOf_snoc _ _ _ _).symm⟩
   unfold evsOf
   rw [List.map_append, l1]
   exact (lifeOf_snoc _ _ _).symm
  ·exact h.lf x (List.mem_of_getElem? hj)
 ·rcases hk with rfl | rfl | hk
  ·exact Or.inl rfl
  ·exact Or.inr (Or.inl (by rw [hvp]; rfl))
  ·exact Or.inr (Or.inr ⟨q, hqm, hk⟩)
 ·rcases hk with rfl | hk | ⟨x, hx, hk⟩
  ·exact Or.inl (Or.inl rfl)
  ·exact Or.inl (Or.inr (Or.inl hk))
  ·rcases mem_set hx with rfl | ⟨j, -, hj⟩
   ·dsimp only at hk
    rcases h3 with h3 | ⟨k9, h4, h5⟩
    ·exact Or.inl (Or.inr (Or.inr ⟨q, hqm, by rw [← h3]; exact hk⟩))
    ·rw [h5] at hk
     obtain rfl := Option.some.inj hk
     exact Or.inr h4
   ·exact Or.inl (Or.inr (Or.inr ⟨x, List.mem_of_getElem? hj, hk⟩))
 ·rcases mem_set hx with rfl | ⟨j, -, hj⟩
  ·obtain ⟨hms, hos, h0⟩ := h1.ms _ hx
   dsimp only at hms hos h0 ⊢
   have key : ∀ (v v' : Value) (l l' : List ByteArray), NewV w v v' → (l ≠ [] → v.ownBlock ≠ some k) → (l' ≠ [] → v' = v → l ≠ []) → l' ≠ [] → v'.ownBlock ≠ some k := fun v v' l l' hv hl hs hne c => by
    rcases hv with hv | hv
    ·rw [hv] at c
     exact hl (hs hne hv) c
    ·have := hv k c
     omega
   obtain ⟨m0, o0, -⟩ := h.ra.ms q hqm
   exact ⟨key q.vm vm' q.life.ms _ h4 (hN q hqm).1 fun hne e c => hne (List.length_eq_zero_iff.1 ((SRow.len_eq (e ▸ hms) m0).trans (by rw [c]; rfl))), key q.vo vo' q.life.os _ h5 (hN q hqm).2 fun hne e c => hne (List.length_eq_zero_iff.1 ((SRow.len_eq (e ▸ hos) o0).trans (by rw [c]; rfl)))⟩
  ·exact hN x (List.mem_of_getElem? hj)
theorem enter_viewE (h : RegV B R vb a g vp w) (ho : OkB a) (hp : a.ps[i]? = some p) (hn : n < a.bks.length) (hu : a.used.getD n 0 < (a.bks.getD n (0, [])).2.length) (hok : okX e = true) (hcan : canP p.1 (lf p) e = true) :
  ∃ PB cp, vp = .slice (some ⟨PB, 0, none⟩) g.qs.length cp ∧ Calls Tryz.prog 65 #[.pointer (some ⟨R, 0, none⟩), .int .i64 (n : Int), .pointer (some ⟨PB, i * 20, none⟩), evX e] w fun en w' => en = .returned (.tuple #[]) ∧ RegE B R vb (putA a n i e) g vp w w' := by
 obtain ⟨q, hq, e1, e2, e3, e4⟩ := h.get hp
 have hpm := List.mem_of_getElem? hp
 obtain ⟨PB, cp, cur, hvp, -, hPB, -⟩ := h.ra.packs (by rintro c; rw [c] at hq; cases hq)
 refine ⟨PB, cp, hvp, ?_⟩
 obtain ⟨ab, cb, hvb, hB⟩ := h.ra.bk
 have hbks : g.bks = a.bks := by rw [← h.abs]; rfl
 have husd : g.used = a.used := by rw [← h.abs]; rfl
 have hpt : g.pt = a.pt := by rw [← h.abs]; rfl
 obtain ⟨bb, ob, cs, fr, rfl, -, -⟩ := hB (by rw [hbks]; rintro c; rw [c] at hn; simp at hn)
 obtain ⟨bk, hbk⟩ : ∃ bk, a.bks[n]? = some bk := ⟨a.bks[n], List.getElem?_eq_getElem hn⟩
 rw [List.getD_eq_getElem?_getD (l := a.bks), hbk, Option.getD_some] at hu
 obtain ⟨pd, hpd⟩ : ∃ pd, bk.2[a.used.getD n 0]? = some pd := ⟨bk.2[a.used.getD n 0]'hu, List.getElem?_eq_getElem hu⟩
 obtain ⟨q1, q2, q3, q4⟩ := ho.p p hpm
 obtain ⟨b1, b2⟩ := ho.life hpm
 have hra := h.ra
 rw [hvp] at hra
 refine (enter_gen (X := fun vm' vo' => NewV w q.vm vm' ∧ NewV w q.vo vo') hra hq hvb (by rw [hbks]; exact hbk) (by rw [husd]) hpd e hok (okX_size hok) (by rw [hpt, hbks]; exact ho.sec) (by rw [e2]; omega) fun W hW hL h0 => (add_anyN (by decide) hL (by rw [e3]; exact b1) (by rw [e3]; exact b2) (by rw [e1]; have := (nameB_size q4).2; omega) h0 e hok (by rw [e1, e3]; exact hcan)).mono fun en w' r => ⟨r.1, by obtain ⟨vm', vo', r2, r3⟩ := r.2; exact ⟨vm', vo', r2.l, r3, r2.m.mono hW, r2.o.mono hW⟩⟩).mono fun en w' r => ⟨r.1, ?_⟩
 have r2 := r.2
 rw [← hvp] at r2
 exact r2.view h hvp hq (by rw [husd])
theorem enter_view (h : RegV B R vb a g vp w) (ho : OkB a) (hp : a.ps[i]? = some p) (hn : n < a.bks.length) (hu : a.used.getD n 0 < (a.bks.getD n (0, [])).2.length) (hok : okX e = true) (hcan : canP p.1 (lf p) e = true) :
  ∃ PB cp, vp = .slice (some ⟨PB, 0, none⟩) g.qs.length cp ∧ Calls Tryz.prog 65 #[.pointer (some ⟨R, 0, none⟩), .int .i64 (n : Int), .pointer (some ⟨PB, i * 20, none⟩), evX e] w fun en w' => en = .returned (.tuple #[]) ∧ RegN B R vb (putA a n i e) g vp w w' := by
 obtain ⟨PB, cp, h1, h2⟩ := enter_viewE h ho hp hn hu hok hcan
 exact ⟨PB, cp, h1, h2.mono fun en w' r => ⟨r.1, r.2.toN⟩⟩
end
end Go.Proofs.YtmpilgkfbibhlaaGreatDoor
namespace Go.Proofs.YtmpilgkfbibhlaaGreatDoor
open Go.RowKit Mr
def o1 (x : Option Rw) : Nat → Option Rw := fun s => if s = 0 then x else none
section
variable {w W w2 : World} {B bx : Nat} {ob : Obj} {R A C : List Nat} {vr : Value} {b0 b1 b2 b3 : Bool} {v0 v1 v2 v3 : Value}
end
end Go.Proofs.YtmpilgkfbibhlaaGreatDoor
namespace Go.Proofs.YtmpilgkfbibhlaaGreatDoor
open Go.RowKit Mr
def f3 (x y z : Option Rw) : Nat → Option Rw := fun s => if s = 0 then x else if s = 1 then y else if s = 2 then z else none
section
variable {w W w2 : World} {R A : List Nat} {C : Nat} {b0 b1 b2 b3 b4 b5 : Bool} {v0 v1 v2 v3 v4 v5 v : Value}
end
end Go.Proofs.YtmpilgkfbibhlaaGreatDoor
