/-
 Registry: valid, book, Left.
-/
import Derived.Test.YtmpilgkfbibhlaaGreatDoorG0Y
import Derived.Test.YtmpilgkfbibhlaaGreatDoorG21Y
import Derived.Test.YtmpilgkfbibhlaaGreatDoorG3Y
import Derived.Deep.MidRow
import Derived.Deep.Cut
set_option linter.unusedSimpArgs false
set_option linter.unusedVariables false
namespace Go.Proofs.YtmpilgkfbibhlaaGreatDoor
open Sx Go.RowKit Mr
def leftR (g : RegS) (b : Int) : Int := if 0 ≤ b ∧ b < g.bks.length then ((g.bks.getD b.toNat (0, [])).2.length : Int) - (g.used.getD b.toNat 0 : Nat) else 0
structure RegOk (g : RegS) : Prop where
 sec : secR g.pt g.bks = 0
 us : ∀ k, g.used.getD k 0 ≤ 5000
 np : g.qs.length ≤ 100
 q : ∀ q ∈ g.qs, q.es.length ≤ 500 ∧ LegH q.nm (evsOf q.es) ∧ (∀ e ∈ evsOf q.es, okX e = true) ∧ q.nm.size ≤ 20 ∧ q.life = lifeOf q.nm (evsOf q.es) ∧ q.hd = headOf g.pt q.nm q.es
theorem RegOk.pt {g : RegS} (h : RegOk g) : 1 ≤ g.pt ∧ g.pt < P31 := (secR_ok h.sec).1
section
variable {B R : Nat} {g : RegS} {vb vp : Value} {W : World}
theorem RegAt.cells (h : RegAt B R g vb vp W) : W.cell? ⟨R, 0, none⟩ = some (.int .u64 (g.pt : Int)) ∧ W.cell? ⟨R, 1, none⟩ = some vb ∧ W.cell? ⟨R, 10, none⟩ = some vp ∧ R < W.heap.size ∧ ∀ k, k < 8 → W.cell? ⟨R, 2 + k, none⟩ = some (.int .i64 (g.used.getD k 0 : Nat)) := by
 have e8 := h.u8
 refine ⟨blk_cell h.reg (by simp [regC]), blk_cell h.reg (by simp [regC]), blk_cell h.reg (by simp [regC, e8]), blk_lt h.reg, fun k hk => blk_cell h.reg ?_⟩
 have h1 : (regC g vb vp)[2 + k]? = (g.used.map (fun n : Nat => Value.int .i64 (n : Int)) ++ [vp])[k]? := by
  unfold regC
  rw [List.append_assoc, List.getElem?_append_right (by simp)]
  congr 1
  simp
 have hku : k < g.used.length := by omega
 rw [List.getElem?_toArray, h1, List.getElem?_append_left (by simpa using hku), List.getElem?_map, List.getD_eq_getElem?_getD, List.getElem?_eq_getElem hku]
 rfl
end
set_option maxHeartbeats 1000000 in
theorem valid_any {B R : Nat} {g : RegS} {vb vp : Value} {w : World} (h : RegAt B R g vb vp w) (hp : 1 ≤ g.pt) : Calls Tryz.prog 56 #[.pointer (some ⟨R, 0, none⟩)] w fun e w' => e = .returned (.bool true) ∧ Below w.heap.size w w' := by
 obtain ⟨c0, -, -, cl, -⟩ := h.cells
 have hn : ((g.pt : Int) == 0) = false := by simp; omega
 have hn2 : ((g.pt : Int) != 0) = true := by simp; omega
 clear h hp
 go_enter Tryz.func56, Tryz.ntmps56
 go_wp2_with fail
 exact bodyPost_ret (v := .bool true) (by simp only [results, Tryz.results56]; go_simp) rfl ⟨rfl, (by repeat' (first | exact Below.refl _ _ | assumption | apply bDrewN | apply bDrew | apply bAlloc | (refine bSet ?_ ?_ _) | (refine bStep ?_ (by assumption)) | omega | (simp <;> omega)))⟩
set_option maxHeartbeats 1000000 in
theorem book_any {B R : Nat} {g : RegS} {vb vp : Value} {w : World} (h : RegAt B R g vb vp w) (b : Int) : Calls Tryz.prog 59 #[.pointer (some ⟨R, 0, none⟩), .int .i64 b] w fun e w' => e = .returned (.bool (decide (0 ≤ b ∧ b < g.bks.length))) ∧ Below w.heap.size w w' := by
 obtain ⟨-, c1, -, cl, -⟩ := h.cells
 obtain ⟨ab, cb, rfl, -⟩ := h.bk
 by_cases h0 : 0 ≤ b
 ·by_cases h1 : b < g.bks.length
  ·rw [decide_eq_true ⟨h0, h1⟩]
   have h2 : b ≥ 0 := h0
   clear h
   go_enter Tryz.func59, Tryz.ntmps59
   go_wp2_with fail
   exact bodyPost_ret (v := .bool true) (by simp only [results, Tryz.results59]; go_simp) rfl ⟨rfl, (by repeat' (first | exact Below.refl _ _ | assumption | apply bDrewN | apply bDrew | apply bAlloc | (refine bSet ?_ ?_ _) | (refine bStep ?_ (by assumption)) | omega | (simp <;> omega)))⟩
  ·rw [decide_eq_false (fun e => h1 e.2)]
   clear h
   go_enter Tryz.func59, Tryz.ntmps59
   go_wp2_with fail
   exact bodyPost_ret (v := .bool false) (by simp only [results, Tryz.results59]; go_simp) rfl ⟨rfl, (by repeat' (first | exact Below.refl _ _ | assumption | apply bDrewN | apply bDrew | apply bAlloc | (refine bSet ?_ ?_ _) | (refine bStep ?_ (by assumption)) | omega | (simp <;> omega)))⟩
 ·rw [decide_eq_false (fun e => h0 e.1)]
  have h2 : b < 0 := by omega
  clear h
  go_enter Tryz.func59, Tryz.ntmps59
  go_wp2_with fail
  exact bodyPost_ret (v := .bool false) (by simp only [results, Tryz.results59]; go_simp) rfl ⟨rfl, (by repeat' (first | exact Below.refl _ _ | assumption | apply bDrewN | apply bDrew | apply bAlloc | (refine bSet ?_ ?_ _) | (refine bStep ?_ (by assumption)) | omega | (simp <;> omega)))⟩
set_option maxHeartbeats 4000000 in
set_option maxRecDepth 20000 in
theorem Left_any {B R : Nat} {g : RegS} {vb vp : Value} {w : World} (h : RegAt B R g vb vp w) (ho : RegOk g) (b : Int) : Calls Tryz.prog 17 #[.pointer (some ⟨R, 0, none⟩), .int .i64 b] w fun e w' => e = .returned (.int .i64 (leftR g b)) ∧ Below w.heap.size w w' := by
 have CV := Lib.hid (fun W (hW : Below w.heap.size w W) => valid_any (h.step hW) ho.pt.1)
 have CB := Lib.hid (fun W (hW : Below w.heap.size w W) => book_any (h.step hW) b)
 obtain ⟨hb1, hb8, hbk⟩ := secR_ok ho.sec
 by_cases hin : 0 ≤ b ∧ b < g.bks.length
 ·unfold leftR
  rw [if_pos hin]
  obtain ⟨h0, h1⟩ := hin
  rw [decide_eq_true ⟨h0, h1⟩] at CB
  obtain ⟨n, rfl⟩ := Int.eq_ofNat_of_zero_le h0
  have h2 : n < g.bks.length := by omega
  have h8 : n < 8 := by omega
  obtain ⟨c0, c1, -, cl, cu⟩ := h.cells
  obtain ⟨ab, cb, rfl, hB0⟩ := h.bk
  have hB := hB0.at_
  obtain ⟨bk, hk⟩ : ∃ bk, g.bks[n]? = some bk := ⟨g.bks[n], List.getElem?_eq_getElem h2⟩
  obtain ⟨bb, ob, rfl, hbb, hbc⟩ := hB (by rintro e; rw [e] at h2; simp at h2)
  obtain ⟨-, vq, s1, ap, cp, rfl, -⟩ := hbc n bk hk
  have hu := cu n h8
  have hus := ho.us n
  have hpl := (hbk bk (List.mem_of_getElem? hk)).2.1
  have HV : Hid (((g.bks.getD (n : Int).toNat (0, [])).2.length : Int) - (g.used.getD (n : Int).toNat 0 : Nat) = (bk.2.length : Int) - (g.used.getD n 0 : Nat)) := by
   unfold Hid
   rw [Int.toNat_natCast, List.getD_eq_getElem?_getD (l := g.bks), hk]
   rfl
  rw [HV.out]
  generalize g.used.getD n 0 = un at *
  have hw : IntKind.i64.wrap ((bk.2.length : Int) - (un : Int)) = (bk.2.length : Int) - (un : Int) := Go.IntWalk.i64_in _ ⟨by omega, by omega⟩
  have h8i : (n : Int) < 8 := by omega
  have HC := Lib.hid (And.intro c1 (And.intro hu s1))
  clear h hB hB0 hbc cu c0 hb1 hb8 hbk ho hk hus hpl HV c1 hu s1
  go_enter Tryz.func17, Tryz.ntmps17
  go_upto_region 3 with (first | (go_at_call 56; refine (CV.out _ (Below.refl _ _)).mono ?_; rintro e w1 ⟨rfl, hb1⟩; have HB1 := Lib.hid hb1; clear hb1) | (go_at_call 59; refine (CB.out _ HB1.out).mono ?_; rintro e w2 ⟨rfl, hb2⟩; have HB2 := Lib.hid (bStep HB1.out hb2); clear hb2))
  have d1 : ∀ s : WStep w2, s.1.cell? ⟨R, 1, none⟩ = some (.slice (some ⟨bb, ob, none⟩) g.bks.length cb) := fun s => cell_step HC.out.1 (bStep HB2.out s.2)
  have d2 : ∀ s : WStep w2, s.1.cell? ⟨R, 2 + n, none⟩ = some (.int .i64 (un : Int)) := fun s => cell_step HC.out.2.1 (bStep HB2.out s.2)
  have d3 : ∀ s : WStep w2, s.1.cell? ⟨bb, ob + n * 2 + 1, none⟩ = some (.slice ap bk.2.length cp) := fun s => cell_step HC.out.2.2 (bStep HB2.out s.2)
  have d4 : ∀ s : WStep w2, R < s.1.heap.size := fun s => Nat.lt_of_lt_of_le cl (bStep HB2.out s.2).size
  refine wp_region_lock (by kernel_rfl) (by kernel_rfl) ?_
  repeat (first | (refine WQ.skip rfl rfl rfl rfl ?_; simp only [Act.put, sl1, sl2, sl3, sl4]) | ((first | (apply WQ.val; (exact rfl)) | (apply WQ.valg; (exact rfl); (exact rfl); (exact rfl))); (intro w9 hw9; obtain ⟨s9, rfl⟩ := hw9; simp [go_sem, d1, d2, d3, d4, h0, h1, h2, h8, h8i, hw]; first | done | exact rfl); simp only [Act.put, sl1, sl2, sl3, sl4]))
  refine WQ.fin fun W4 hW4 => ?_
  go_wp2_with fail
  exact bodyPost_ret (v := .int .i64 ((bk.2.length : Int) - (un : Int))) (by simp only [results, Tryz.results17]; go_simp) rfl ⟨rfl, bStep HB2.out hW4⟩
 ·unfold leftR
  rw [if_neg hin]
  rw [decide_eq_false hin] at CB
  clear h ho hin hb1 hb8 hbk
  go_enter Tryz.func17, Tryz.ntmps17
  go_wp2_with (first | (go_at_call 56; refine (CV.out _ (Below.refl _ _)).mono ?_; rintro e w1 ⟨rfl, hb1⟩; have HB1 := Lib.hid hb1; clear hb1) | (go_at_call 59; refine (CB.out _ HB1.out).mono ?_; rintro e w2 ⟨rfl, hb2⟩; have HB2 := Lib.hid (bStep HB1.out hb2); clear hb2))
  exact bodyPost_ret (v := .int .i64 0) (by simp only [results, Tryz.results17]; go_simp) rfl ⟨rfl, HB2.out⟩
end Go.Proofs.YtmpilgkfbibhlaaGreatDoor
namespace Go.Proofs.YtmpilgkfbibhlaaGreatDoor
open Sx Go.RowKit Mr
theorem own_setT {W : World} {B E sz n P o : Nat} {T : TypeId} {v u : Value} {xs : List Value} {cs : Array Value} {fr : Nat × Nat} (h : W.ownsRow B E sz v n xs) (hc : W.heap[P]? = some (.cells cs T fr)) (hT : T ≠ E) : (W.setCell ⟨P, o, none⟩ u).ownsRow B E sz v n xs := by
 obtain ⟨h1, h2⟩ := h
 refine ⟨h1, ?_⟩
 rcases h2 with h2 | ⟨g, cap, cur, q1, q2, q3, q4⟩
 ·exact Or.inl h2
 ·refine Or.inr ⟨g, cap, cur, q1, q2, blk_set_other q3 (fun e => ?_), q4⟩
  have e2 : g = P := e
  subst e2
  rw [q3] at hc
  simp at hc
  exact hT hc.2.1.symm
theorem own_onlyT {T : TypeId} {PB off m : Nat} {W w2 : World} {B E sz n : Nat} {v : Value} {xs : List Value} (h : W.ownsRow B E sz v n xs) (ho : OnlyB T PB off m W w2) (hT : T ≠ E) : w2.ownsRow B E sz v n xs := by
 obtain ⟨cs, cs', c1, -⟩ := ho.cells
 obtain ⟨h1, h2⟩ := h
 refine ⟨h1, ?_⟩
 rcases h2 with h2 | ⟨g, cap, cur, q1, q2, q3, q4⟩
 ·exact Or.inl h2
 ·refine Or.inr ⟨g, cap, cur, q1, q2, (ho.block g (blk_lt q3) (fun e => ?_)).trans q3, q4⟩
  subst e
  rw [q3] at c1
  simp at c1
  exact hT c1.2.symm
section
variable {B R : Nat} {g : RegS} {vb vp : Value} {W w2 : World}
theorem keepT_set {P o : Nat} {T : TypeId} {u : Value} {cs : Array Value} {fr : Nat × Nat} (hc : W.heap[P]? = some (.cells cs T fr)) (hT : T = 121 ∨ T = 116 ∨ T = 31) : KeepT W (W.setCell ⟨P, o, none⟩ u) := fun b cs2 T2 fr2 e n1 n2 n3 => by
 refine blk_set_other e (fun c => ?_)
 have c2 : b = P := c
 subst c2
 rw [hc] at e
 simp at e
 obtain ⟨-, e2, -⟩ := e
 subst e2
 rcases hT with hT | hT | hT
 ·exact n1 hT
 ·exact n2 hT
 ·exact n3 hT
theorem keepT_only {T : TypeId} {PB off m : Nat} (ho : OnlyB T PB off m W w2) (hT : T = 121 ∨ T = 116 ∨ T = 31) : KeepT W w2 := fun b cs2 T2 fr2 e n1 n2 n3 => by
 obtain ⟨cs, cs', c1, -⟩ := ho.cells
 refine (ho.block b (blk_lt e) (fun c => ?_)).trans e
 subst c
 rw [c1] at e
 simp at e
 obtain ⟨-, e2, -⟩ := e
 subst e2
 rcases hT with hT | hT | hT
 ·exact n1 hT
 ·exact n2 hT
 ·exact n3 hT
theorem regC_used {k u : Nat} (hk : k < g.used.length) : (regC g vb vp).toArray.setIfInBounds (2 + k) (.int .i64 (u : Int)) = (regC { g with used := g.used.set k u } vb vp).toArray := by
 rw [List.setIfInBounds_toArray]
 congr 1
 unfold regC
 simp only [List.cons_append, List.nil_append]
 rw [show 2 + k = k + 1 + 1 by omega, List.set_cons_succ, List.set_cons_succ, List.set_append_left _ _ (by simpa using hk), List.map_set]
theorem RegAt.setUsed (h : RegAt B R g vb vp W) {k u : Nat} (hk : k < 8) : RegAt B R { g with used := g.used.set k u } vb vp (W.setCell ⟨R, 2 + k, none⟩ (.int .i64 (u : Int))) := by
 have hK := keepT_set (o := 2 + k) (u := .int .i64 (u : Int)) h.reg (Or.inl rfl)
 obtain ⟨h1, h2, ⟨ab, cb, h3, h4⟩, h5, h6, h7, h8, h9⟩ := h
 refine ⟨?_, by show (g.used.set k u).length = 8; rw [List.length_set]; exact h2, ⟨ab, cb, h3, hK.books h4⟩, own_setT h5 h1 (by decide), fun q hq => ⟨hK.srow (h6 q hq).1, hK.srow (h6 q hq).2.1, (h6 q hq).2.2⟩, fun q hq => own_setT (h7 q hq) h1 (by decide), h8, h9⟩
 rw [← regC_used (by omega)]
 exact blk_set h1
theorem mem_set {qs : List PkV} {i : Nat} {q' p : PkV} (h : p ∈ qs.set i q') : p = q' ∨ ∃ j, j ≠ i ∧ qs[j]? = some p := by
 obtain ⟨j, hj⟩ := List.getElem?_of_mem h
 by_cases c : j = i
 ·subst c
  have hl : j < qs.length := by have := (List.getElem?_eq_some_iff.1 hj).1; simpa using this
  rw [List.getElem?_set_self hl] at hj
  exact Or.inl (Option.some.inj hj).symm
 ·rw [List.getElem?_set_ne (fun e => c e.symm)] at hj
  exact Or.inr ⟨j, c, hj⟩
theorem RegAt.setPk (h : RegAt B R g vb vp W) {i PB cp : Nat} {q q' : PkV} (hvp : vp = .slice (some ⟨PB, 0, none⟩) g.qs.length cp) (hq : g.qs[i]? = some q) (ho : OnlyB 116 PB (i * 20) 20 W w2) (hc : ∀ (j : Nat) (u : Value), (pkC q')[j]? = some u → w2.cell? ⟨PB, i * 20 + j, none⟩ = some u)
  (hm : SRow q'.vm q'.life.ms w2 ∧ SRow q'.vo q'.life.os w2 ∧ (q'.life.n = 0 → q'.vm = .slice none 0 0 ∧ q'.life.ms = [])) (he : q'.ve = q.ve ∧ q'.es = q.es) : RegAt B R { g with qs := g.qs.set i q' } vb vp w2 := by
 have hK := keepT_only ho (Or.inr (Or.inl rfl))
 have hi := (List.getElem?_eq_some_iff.1 hq).1
 obtain ⟨cs, cs', c1, -⟩ := ho.cells
 obtain ⟨h1, h2, ⟨ab, cb, h3, h4⟩, h5, h6, h7, h8, h9⟩ := h
 have hRP : R ≠ PB := fun e => by
  subst e
  rw [h1] at c1
  exact absurd c1 (by simp)
 have hlen : (g.qs.set i q').length = g.qs.length := List.length_set
 refine ⟨(ho.block R (blk_lt h1) hRP).trans h1, h2, ⟨ab, cb, h3, hK.books h4⟩, ?_, fun p hp => ?_, fun p hp => ?_, fun a b p p2 hab ha hb => ?_, h9⟩
 ·show w2.ownsRow B 116 20 vp (g.qs.set i q').length (flatK (g.qs.set i q'))
  rw [hlen]
  exact row_set h5 rfl (by rw [hvp]; rfl) hi ho hc
 ·rcases mem_set hp with rfl | ⟨j, -, hj⟩
  ·exact hm
  ·have := h6 p (List.mem_of_getElem? hj)
   exact ⟨hK.srow this.1, hK.srow this.2.1, this.2.2⟩
 ·rcases mem_set hp with rfl | ⟨j, -, hj⟩
  ·rw [he.1, he.2]
   exact own_onlyT (h7 q (List.mem_of_getElem? hq)) ho (by decide)
  ·exact own_onlyT (h7 p (List.mem_of_getElem? hj)) ho (by decide)
 ·have key : ∀ (j : Nat) (x : PkV), (g.qs.set i q')[j]? = some x → ∃ y, g.qs[j]? = some y ∧ y.ve = x.ve := fun j x hx => by
   by_cases c : j = i
   ·subst c
    rw [List.getElem?_set_self hi] at hx
    obtain rfl := Option.some.inj hx
    exact ⟨q, hq, he.1.symm⟩
   ·rw [List.getElem?_set_ne (fun e => c e.symm)] at hx
    exact ⟨x, hx, rfl⟩
  obtain ⟨y1, e1, e2⟩ := key a p ha
  obtain ⟨y2, e3, e4⟩ := key b p2 hb
  rw [← e2, ← e4]
  exact h8 a b y1 y2 hab e1 e3
end
end Go.Proofs.YtmpilgkfbibhlaaGreatDoor
namespace Go.Proofs.YtmpilgkfbibhlaaGreatDoor
open Sx Go.RowKit Mr
theorem own_kept {W W5 : World} {B B2 E sz n E2 sz2 n2 : Nat} {v v2 : Value} {xs xs2 : List Value} (h : W.ownsRow B E sz v n xs) (hg : W.grownBy W5 v2.ownBlock) (h2 : W.ownsRow B2 E2 sz2 v2 n2 xs2) (hE : E ≠ E2) : W5.ownsRow B E sz v n xs :=
 World.ownsRow.kept h hg (by
  cases hb : v.ownBlock with
  | none => exact Or.inl rfl
  | some k =>
   refine Or.inr fun e => ?_
   obtain ⟨-, c1, e1⟩ := own_typed h hb
   obtain ⟨-, c2, e2⟩ := own_typed h2 e.symm
   rw [e1] at e2
   simp at e2
   exact hE e2.2)
theorem blk_kept {W W5 : World} {B E sz n b : Nat} {T : TypeId} {v : Value} {xs : List Value} {cs : Array Value} {fr : Nat × Nat} (hb : W.heap[b]? = some (.cells cs T fr)) (hg : W.grownBy W5 v.ownBlock) (h : W.ownsRow B E sz v n xs) (hT : T ≠ E) : W5.heap[b]? = some (.cells cs T fr) := grown_other h hg hb hT
section
variable {B R : Nat} {g : RegS} {vb vp : Value} {W W5 : World}
theorem RegAt.setEs (h : RegAt B R g vb vp W) {i PB cp : Nat} {q : PkV} {y : Ent} {v' : Value} (hvp : vp = .slice (some ⟨PB, 0, none⟩) g.qs.length cp) (hq : g.qs[i]? = some q) (hg : W.grownBy W5 q.ve.ownBlock) (ho : W5.ownsRow B 31 10 v' (q.es.length + 1) (flatY q.es ++ entC y))
  (hat : v'.ownBlock = q.ve.ownBlock ∨ v'.ownBlock = some W.heap.size) : RegAt B R { g with qs := g.qs.set i { q with es := q.es ++ [y], ve := v' } } vb vp (W5.setCell ⟨PB, i * 20 + 19, none⟩ v') := by
 have hi := (List.getElem?_eq_some_iff.1 hq).1
 have hqm := List.mem_of_getElem? hq
 obtain ⟨PB2, cp2, cur, ea, -, hPB, hcells⟩ := h.packs (by rintro e; rw [e] at hi; simp at hi)
 rw [hvp] at ea
 cases ea
 have hqe := h.es q hqm
 have hPB5 := blk_kept hPB hg hqe (by decide)
 have hK : KeepT W (W5.setCell ⟨PB, i * 20 + 19, none⟩ v') := fun b cs T fr e n1 n2 n3 => keepT_set hPB5 (Or.inr (Or.inl rfl)) b cs T fr (blk_kept e hg hqe n3) n1 n2 n3
 obtain ⟨h1, h2, ⟨ab, cb, h3, h4⟩, h5, h6, h7, h8, h9⟩ := h
 have hRP : R ≠ PB := fun e => by
  subst e
  rw [h1] at hPB
  exact absurd hPB (by simp)
 have hlen : (g.qs.set i { q with es := q.es ++ [y], ve := v' }).length = g.qs.length := List.length_set
 have hOB : OnlyB 116 PB (i * 20) 20 W5 (W5.setCell ⟨PB, i * 20 + 19, none⟩ v') := (OnlyB.start hPB5).set (j := 19) (by decide) v'
 have hset := blk_set (o := i * 20 + 19) (v := v') hPB5
 have hsz : i * 20 + 20 ≤ cur.size := by
  have := hcells i q hq 19 _ rfl
  have := (Array.getElem?_eq_some_iff.1 this).1
  omega
 refine ⟨blk_set_other (blk_kept h1 hg hqe (by decide)) hRP, h2, ⟨ab, cb, h3, hK.books h4⟩, ?_, fun p hp => ?_, fun p hp => ?_, fun a b p p2 hab ha hb => ?_, h9⟩
 ·show (W5.setCell ⟨PB, i * 20 + 19, none⟩ v').ownsRow B 116 20 vp (g.qs.set i { q with es := q.es ++ [y], ve := v' }).length (flatK (g.qs.set i { q with es := q.es ++ [y], ve := v' }))
  rw [hlen]
  refine row_set (own_kept h5 hg hqe (by decide)) rfl (by rw [hvp]; rfl) hi hOB fun j u hj => blk_cell hset ?_
  have hj20 : j < 20 := by have := (List.getElem?_eq_some_iff.1 hj).1; rwa [pkC_len] at this
  rw [Array.getElem?_setIfInBounds]
  by_cases c : i * 20 + 19 = i * 20 + j
  ·obtain rfl : j = 19 := by omega
   rw [if_pos rfl, if_pos (by omega)]
   exact hj
  ·rw [if_neg c]
   refine hcells i q hq j u ?_
   have hc : j < 19 := by omega
   have e : (pkC { q with es := q.es ++ [y], ve := v' }).take 19 = (pkC q).take 19 := rfl
   have e2 := congrArg (fun l => l[j]?) e
   simp only [List.getElem?_take_of_lt hc] at e2
   rw [← e2]; exact hj
 ·rcases mem_set hp with rfl | ⟨j, -, hj⟩
  ·exact ⟨hK.srow (h6 q hqm).1, hK.srow (h6 q hqm).2.1, (h6 q hqm).2.2⟩
  ·have := h6 p (List.mem_of_getElem? hj)
   exact ⟨hK.srow this.1, hK.srow this.2.1, this.2.2⟩
 ·rcases mem_set hp with rfl | ⟨j, hne, hj⟩
  ·refine own_setT ?_ hPB5 (by decide)
   show W5.ownsRow B 31 10 v' (q.es ++ [y]).length (flatY (q.es ++ [y]))
   rw [List.length_append, flatY_snoc]
   exact ho
  ·exact own_setT (World.ownsRow.kept (h7 p (List.mem_of_getElem? hj)) hg (h8 j i p q hne hj hq).ne) hPB5 (by decide)
 ·have key : ∀ (j : Nat) (x : PkV), (g.qs.set i { q with es := q.es ++ [y], ve := v' })[j]? = some x → (j = i ∧ x.ve = v') ∨ (j ≠ i ∧ g.qs[j]? = some x) := fun j x hx => by
   by_cases c : j = i
   ·subst c
    rw [List.getElem?_set_self hi] at hx
    obtain rfl := Option.some.inj hx
    exact Or.inl ⟨rfl, rfl⟩
   ·rw [List.getElem?_set_ne (fun e => c e.symm)] at hx
    exact Or.inr ⟨c, hx⟩
  have far : ∀ (j : Nat) (x : PkV), j ≠ i → g.qs[j]? = some x → Far v' x.ve := fun j x hne hx k e1 e2 => by
   rcases hat with hat | hat
   ·exact h8 i j q x (fun e => hne e.symm) hq hx k (hat.symm.trans e1) e2
   ·rw [hat] at e1
    have := (World.ownsRow.lt (h7 x (List.mem_of_getElem? hx)) k e2).2
    simp at e1
    omega
  rcases key a p ha with ⟨rfl, e1⟩ | ⟨n1, e1⟩
  ·rcases key b p2 hb with ⟨rfl, e2⟩ | ⟨n2, e2⟩
   ·exact absurd rfl hab
   ·rw [e1]; exact far b p2 n2 e2
  ·rcases key b p2 hb with ⟨rfl, e2⟩ | ⟨n2, e2⟩
   ·rw [e2]; exact (far a p n1 e1).symm
   ·exact h8 a b p p2 hab e1 e2
end
end Go.Proofs.YtmpilgkfbibhlaaGreatDoor
namespace Go.Proofs.YtmpilgkfbibhlaaGreatDoor
open Sx Go.RowKit Mr
theorem ent_there2 {W : World} {r : Nat} (hz : W.heap[r]? = some (.cells zeroE 31 (0, 0))) : W.there r 0 10 := by
  intro j hj
  refine ⟨?_, blk_free hz⟩
  have : j < zeroE.size := hj
  rw [blk_cell hz (v := zeroE[j]) (by rw [Nat.zero_add, Array.getElem?_eq_getElem this])]
  rfl
set_option maxHeartbeats 1000000 in
theorem ent_fill {W : World} {r : Nat} (y : Ent) (hz : W.heap[r]? = some (.cells zeroE 31 (0, 0))) : (W.setCells r 0 (entC y)).heap[r]? = some (.cells (entC y).toArray 31 (0, 0)) := by
  obtain ⟨⟨k, t, a, b, nm, ot⟩, by_, pad, head, tag⟩ := y
  unfold zeroE at hz
  have z0 : (W.setCell ⟨r, 0, none⟩ (.int .i64 k)).heap[r]? = some (.cells #[(.int .i64 k), (.int .i64 0), (.int .i64 0), (.int .i64 0), (.string ⟨#[]⟩), (.string ⟨#[]⟩), (.int .i64 0), (.int .i64 0), (.int .u64 0), (.int .u64 0)] 31 (0, 0)) := blk_set hz
  have z1 : ((W.setCell ⟨r, 0, none⟩ (.int .i64 k)).setCell ⟨r, 1, none⟩ (.int .i64 t)).heap[r]? = some (.cells #[(.int .i64 k), (.int .i64 t), (.int .i64 0), (.int .i64 0), (.string ⟨#[]⟩), (.string ⟨#[]⟩), (.int .i64 0), (.int .i64 0), (.int .u64 0), (.int .u64 0)] 31 (0, 0)) := blk_set z0
  have z2 : (((W.setCell ⟨r, 0, none⟩ (.int .i64 k)).setCell ⟨r, 1, none⟩ (.int .i64 t)).setCell ⟨r, 2, none⟩ (.int .i64 a)).heap[r]? = some (.cells #[(.int .i64 k), (.int .i64 t), (.int .i64 a), (.int .i64 0), (.string ⟨#[]⟩), (.string ⟨#[]⟩), (.int .i64 0), (.int .i64 0), (.int .u64 0), (.int .u64 0)] 31 (0, 0)) := blk_set z1
  have z3 : ((((W.setCell ⟨r, 0, none⟩ (.int .i64 k)).setCell ⟨r, 1, none⟩ (.int .i64 t)).setCell ⟨r, 2, none⟩ (.int .i64 a)).setCell ⟨r, 3, none⟩ (.int .i64 b)).heap[r]? = some (.cells #[(.int .i64 k), (.int .i64 t), (.int .i64 a), (.int .i64 b), (.string ⟨#[]⟩), (.string ⟨#[]⟩), (.int .i64 0), (.int .i64 0), (.int .u64 0), (.int .u64 0)] 31 (0, 0)) := blk_set z2
  have z4 : (((((W.setCell ⟨r, 0, none⟩ (.int .i64 k)).setCell ⟨r, 1, none⟩ (.int .i64 t)).setCell ⟨r, 2, none⟩ (.int .i64 a)).setCell ⟨r, 3, none⟩ (.int .i64 b)).setCell ⟨r, 4, none⟩ (.string nm)).heap[r]? = some (.cells #[(.int .i64 k), (.int .i64 t), (.int .i64 a), (.int .i64 b), (.string nm), (.string ⟨#[]⟩), (.int .i64 0), (.int .i64 0), (.int .u64 0), (.int .u64 0)] 31 (0, 0)) := blk_set z3
  have z5 : ((((((W.setCell ⟨r, 0, none⟩ (.int .i64 k)).setCell ⟨r, 1, none⟩ (.int .i64 t)).setCell ⟨r, 2, none⟩ (.int .i64 a)).setCell ⟨r, 3, none⟩ (.int .i64 b)).setCell ⟨r, 4, none⟩ (.string nm)).setCell ⟨r, 5, none⟩ (.string ot)).heap[r]? = some (.cells #[(.int .i64 k), (.int .i64 t), (.int .i64 a), (.int .i64 b), (.string nm), (.string ot), (.int .i64 0), (.int .i64 0), (.int .u64 0), (.int .u64 0)] 31 (0, 0)) := blk_set z4
  have z6 : (((((((W.setCell ⟨r, 0, none⟩ (.int .i64 k)).setCell ⟨r, 1, none⟩ (.int .i64 t)).setCell ⟨r, 2, none⟩ (.int .i64 a)).setCell ⟨r, 3, none⟩ (.int .i64 b)).setCell ⟨r, 4, none⟩ (.string nm)).setCell ⟨r, 5, none⟩ (.string ot)).setCell ⟨r, 6, none⟩ (.int .i64 by_)).heap[r]? = some (.cells #[(.int .i64 k), (.int .i64 t), (.int .i64 a), (.int .i64 b), (.string nm), (.string ot), (.int .i64 by_), (.int .i64 0), (.int .u64 0), (.int .u64 0)] 31 (0, 0)) := blk_set z5
  have z7 : ((((((((W.setCell ⟨r, 0, none⟩ (.int .i64 k)).setCell ⟨r, 1, none⟩ (.int .i64 t)).setCell ⟨r, 2, none⟩ (.int .i64 a)).setCell ⟨r, 3, none⟩ (.int .i64 b)).setCell ⟨r, 4, none⟩ (.string nm)).setCell ⟨r, 5, none⟩ (.string ot)).setCell ⟨r, 6, none⟩ (.int .i64 by_)).setCell ⟨r, 7, none⟩ (.int .i64 pad)).heap[r]? = some (.cells #[(.int .i64 k), (.int .i64 t), (.int .i64 a), (.int .i64 b), (.string nm), (.string ot), (.int .i64 by_), (.int .i64 pad), (.int .u64 0), (.int .u64 0)] 31 (0, 0)) := blk_set z6
  have z8 : (((((((((W.setCell ⟨r, 0, none⟩ (.int .i64 k)).setCell ⟨r, 1, none⟩ (.int .i64 t)).setCell ⟨r, 2, none⟩ (.int .i64 a)).setCell ⟨r, 3, none⟩ (.int .i64 b)).setCell ⟨r, 4, none⟩ (.string nm)).setCell ⟨r, 5, none⟩ (.string ot)).setCell ⟨r, 6, none⟩ (.int .i64 by_)).setCell ⟨r, 7, none⟩ (.int .i64 pad)).setCell ⟨r, 8, none⟩ (.int .u64 (head : Int))).heap[r]? = some (.cells #[(.int .i64 k), (.int .i64 t), (.int .i64 a), (.int .i64 b), (.string nm), (.string ot), (.int .i64 by_), (.int .i64 pad), (.int .u64 (head : Int)), (.int .u64 0)] 31 (0, 0)) := blk_set z7
  have z9 : ((((((((((W.setCell ⟨r, 0, none⟩ (.int .i64 k)).setCell ⟨r, 1, none⟩ (.int .i64 t)).setCell ⟨r, 2, none⟩ (.int .i64 a)).setCell ⟨r, 3, none⟩ (.int .i64 b)).setCell ⟨r, 4, none⟩ (.string nm)).setCell ⟨r, 5, none⟩ (.string ot)).setCell ⟨r, 6, none⟩ (.int .i64 by_)).setCell ⟨r, 7, none⟩ (.int .i64 pad)).setCell ⟨r, 8, none⟩ (.int .u64 (head : Int))).setCell ⟨r, 9, none⟩ (.int .u64 (tag : Int))).heap[r]? = some (.cells #[(.int .i64 k), (.int .i64 t), (.int .i64 a), (.int .i64 b), (.string nm), (.string ot), (.int .i64 by_), (.int .i64 pad), (.int .u64 (head : Int)), (.int .u64 (tag : Int))] 31 (0, 0)) := blk_set z8
  exact z9
structure EnS (w0 : World) (y : Ent) (b0 b1 : Bool) (v0 : Value) (W : World) : Prop where
  bel : Below w0.heap.size w0 W
  bx : b0 = true → ∃ r, v0 = .pointer (some ⟨r, 0, none⟩) ∧ w0.heap.size ≤ r ∧ W.heap[r]? = some (.cells (bif b1 then (entC y).toArray else zeroE) 31 (0, 0))
  n : b0 = false → b1 = false
section
variable {w0 W w2 : World} {y : Ent} {b0 b1 : Bool} {v0 : Value}
theorem EnS.step (h : EnS w0 y b0 b1 v0 W) (hb : Below W.heap.size W w2) : EnS w0 y b0 b1 v0 w2 := ⟨bStep h.bel hb, fun e => by obtain ⟨r, q1, q2, q3⟩ := h.bx e; exact ⟨r, q1, q2, blk_step q3 hb⟩, h.n⟩
theorem EnS.mk0 (h : EnS w0 y false false v0 W) : EnS w0 y true false (.pointer (some ⟨W.heap.size, 0, none⟩)) (W.alloc (.cells zeroE 31)) := ⟨bStep h.bel bAl, fun _ => ⟨_, rfl, h.bel.size, blk_new W _⟩, fun e => by cases e⟩
theorem EnS.put {r : Nat} (h : EnS w0 y true false (.pointer (some ⟨r, 0, none⟩)) W) : EnS w0 y true true (.pointer (some ⟨r, 0, none⟩)) (W.setCells r 0 (entC y)) := by
  obtain ⟨r2, q1, q2, q3⟩ := h.bx rfl
  cases q1
  exact ⟨bSetCellsE _ _ h.bel q2, fun _ => ⟨r, rfl, q2, ent_fill y q3⟩, fun e => by cases e⟩
end
structure ApS (P0 P2 : World → Prop) (Bs r : Nat) (y : Ent) (ve : Value) (n : Nat) (xs : List Value) (b0 bY b1 b2 b3 : Bool) (v0 vY v1 v2 : Value) (W : World) : Prop where
  a : b2 = false → P0 W
  m : b2 = true → b3 = false → ∃ Wb, P0 Wb ∧ Wb.grownBy W ve.ownBlock ∧ (v2.ownBlock = ve.ownBlock ∨ v2.ownBlock = some Wb.heap.size) ∧ W.ownsRow Bs 31 10 v2 (n + 1) (xs ++ entC y)
  z : b3 = true → P2 W
  r0 : b0 = true → v0 = ve
  r1 : b1 = true → b2 = false → ∃ g, v1 = .slice (some ⟨g, 0, none⟩) 1 1 ∧ W.heap[g]? = some (.cells (entC y).toArray 31 (0, 0))
  n0 : b0 = false → b2 = false
  n1 : b1 = false → b2 = false
  n2 : b2 = false → b3 = false
  ry : bY = true → vY = entX y
  nY : bY = false → b1 = false
  yb : b2 = false → W.heap[r]? = some (.cells (entC y).toArray 31 (0, 0))
  hb : Bs ≤ W.heap.size
theorem grown_step {W W1 w2 : World} {k : Option Nat} (h : W.grownBy W1 k) (hb : Below W1.heap.size W1 w2) : W.grownBy w2 k :=
  ⟨hb.os.trans h.os, hb.tape.trans h.tape, hb.output.trans h.output, Nat.le_trans h.size hb.size, fun j hj hn => (hb.block j (Nat.lt_of_lt_of_le hj h.size)).trans (h.block j hj hn)⟩
theorem infoEnt : (Tryz.prog.info? 31).map (fun i => (i.zero, i.size, i.bytes)) = some (some (.agg #[.int .i64 0, .int .i64 0, .int .i64 0, .int .i64 0, .string ⟨#[]⟩, .string ⟨#[]⟩, .int .i64 0, .int .i64 0, .int .u64 0, .int .u64 0]), 10, 96) := by kernel_rfl
theorem entC_one1 (y : Ent) : ∀ u ∈ entC y, u.oneCell' = true := by
  obtain ⟨⟨k, t, a, b, nm, ot⟩, by_, pad, head, tag⟩ := y
  intro v hv
  simp only [entC, List.mem_cons, List.not_mem_nil, or_false] at hv
  rcases hv with rfl | rfl | rfl | rfl | rfl | rfl | rfl | rfl | rfl | rfl <;> rfl
section
variable {P0 P2 : World → Prop} {Bs r n : Nat} {y : Ent} {ve : Value} {xs : List Value} {b0 bY b1 b2 b3 : Bool} {v0 vY v1 v2 : Value} {W w2 : World}
theorem ApS.step (hP : ∀ W w2, P0 W → Below W.heap.size W w2 → P0 w2) (hP2 : ∀ W w2, P2 W → Below W.heap.size W w2 → P2 w2) (h : ApS P0 P2 Bs r y ve n xs b0 bY b1 b2 b3 v0 vY v1 v2 W) (hb : Below W.heap.size W w2) : ApS P0 P2 Bs r y ve n xs b0 bY b1 b2 b3 v0 vY v1 v2 w2 :=
  ⟨fun e => hP _ _ (h.a e) hb, fun e1 e2 => by obtain ⟨Wb, q1, q2, q3, q4⟩ := h.m e1 e2; exact ⟨Wb, q1, grown_step q2 hb, q3, own_step q4 hb⟩, fun e => hP2 _ _ (h.z e) hb, h.r0,
   fun e1 e2 => by obtain ⟨g, q1, q2⟩ := h.r1 e1 e2; exact ⟨g, q1, blk_step q2 hb⟩, h.n0, h.n1, h.n2, h.ry, h.nY, (fun e => blk_step (h.yb e) hb), Nat.le_trans h.hb hb.size⟩
theorem ApS.mk0 (h : ApS P0 P2 Bs r y ve n xs false bY b1 false false v0 vY v1 v2 W) : ApS P0 P2 Bs r y ve n xs true bY b1 false false ve vY v1 v2 W :=
  ⟨h.a, (fun e => by cases e), (fun e => by cases e), fun _ => rfl, h.r1, (fun e => by cases e), h.n1, h.n2, h.ry, h.nY, h.yb, h.hb⟩
theorem ApS.mkY (h : ApS P0 P2 Bs r y ve n xs b0 false false false false v0 vY v1 v2 W) : ApS P0 P2 Bs r y ve n xs b0 true false false false v0 (entX y) v1 v2 W :=
  ⟨h.a, (fun e => by cases e), (fun e => by cases e), h.r0, h.r1, h.n0, h.n1, h.n2, (fun _ => rfl), (fun e => by cases e), h.yb, h.hb⟩
theorem ApS.mk1 (hP : ∀ W w2, P0 W → Below W.heap.size W w2 → P0 w2) (h : ApS P0 P2 Bs r y ve n xs b0 true false false false v0 vY v1 v2 W) : ApS P0 P2 Bs r y ve n xs b0 true true false false v0 vY (.slice (some ⟨W.heap.size, 0, none⟩) 1 1) v2 (W.alloc (.cells (entC y).toArray 31)) :=
  ⟨fun e => hP _ _ (h.a e) bAl, (fun e => by cases e), (fun e => by cases e), h.r0, (fun _ _ => ⟨_, rfl, blk_new W _⟩), h.n0, (fun _ => rfl), h.n2, h.ry, (fun e => by cases e), (fun e => blk_step (h.yb e) bAl), Nat.le_trans h.hb bAl.size⟩
theorem ApS.app {o : Oper} {a : Act} {K : Act → World → Prop} {Q : Exit → Act → World → Prop} (hown : ∀ W, P0 W → W.ownsRow Bs 31 10 ve n xs) (hn : n ≤ 100000) (h : ApS P0 P2 Bs r y ve n xs true bY true false false v0 vY v1 v2 W)
    (s p : Operand) (ho : o.op = .call { callee := .builtin .append, args := #[s, p], argTypes := #[24, 24] }) (hs : a.eval s = v0) (hp : a.eval p = v1)
    (hK : ∀ v' W', ApS P0 P2 Bs r y ve n xs true bY true true false v0 vY v1 v' W' → K (a.put o.dst v') W') : o.wp Tryz.prog a W K Q := by
  obtain ⟨i0, hi, hz0, hz1, hz2⟩ := info_parts infoEnt
  obtain rfl := h.r0 rfl
  obtain ⟨g, rfl, hg⟩ := h.r1 rfl rfl
  refine wp_app (P := Tryz.prog) W s p 24 ho Bs 31 i0 _ 10 96 Tryz.underlying24 hi hz0 hz1 hz2 rfl (by decide) v0 n xs hs (hown W (h.a rfl)) (some ⟨g, 0, none⟩) 1 1 (entC y) hp (by rw [entC_len]) (fun _ => ⟨g, 0, rfl, fun j u hu => blk_cell hg (by rw [Nat.zero_add]; simpa using hu)⟩) (entC_one1 y) (by unfold maxLen; omega) (by omega) h.hb fun v' W' q1 q2 q3 => hK v' W' ?_
  exact ⟨(fun e => by cases e), (fun _ _ => ⟨W, h.a rfl, q2, q3, q1⟩), (fun e => by cases e), (fun _ => rfl), (fun _ e => by cases e), (fun e => by cases e), (fun e => by cases e), (fun e => by cases e), h.ry, h.nY, (fun e => by cases e), Nat.le_trans h.hb q2.size⟩
end
structure KeepB (S : Nat → Prop) (w W : World) : Prop where
  os : W.os = w.os
  tape : W.tape = w.tape
  output : W.output = w.output
  size : w.heap.size ≤ W.heap.size
  block : ∀ k, k < w.heap.size → ¬ S k → W.heap[k]? = w.heap[k]?
section
variable {S : Nat → Prop} {w W w2 : World}
theorem KeepB.of_below (h : Below w.heap.size w W) : KeepB S w W := ⟨h.os, h.tape, h.output, h.size, fun k hk _ => h.block k hk⟩
theorem KeepB.step (h : KeepB S w W) (hb : Below W.heap.size W w2) : KeepB S w w2 :=
  ⟨hb.os.trans h.os, hb.tape.trans h.tape, hb.output.trans h.output, Nat.le_trans h.size hb.size, fun k hk hn => (hb.block k (Nat.lt_of_lt_of_le hk h.size)).trans (h.block k hk hn)⟩
theorem KeepB.set {P o : Nat} {u : Value} (h : KeepB S w W) (hP : S P) : KeepB S w (W.setCell ⟨P, o, none⟩ u) := by
  refine ⟨h.os, h.tape, h.output, by simpa using h.size, fun k hk hn => ?_⟩
  rw [Below.heap_setCell _ _ _ _ (fun e => hn (by have e2 : k = P := e; rw [e2]; exact hP))]
  exact h.block k hk hn
theorem KeepB.grown {k0 : Option Nat} (h : KeepB S w W) (hg : W.grownBy w2 k0) (hS : ∀ k, k0 = some k → k < w.heap.size → S k) : KeepB S w w2 :=
  ⟨hg.os.trans h.os, hg.tape.trans h.tape, hg.output.trans h.output, Nat.le_trans h.size hg.size, fun k hk hn => (hg.block k (Nat.lt_of_lt_of_le hk h.size) (fun e => hn (hS k e.symm hk))).trans (h.block k hk hn)⟩
theorem KeepB.only {T : TypeId} {PB off m : Nat} (h : KeepB S w W) (ho : OnlyB T PB off m W w2) (hP : S PB) : KeepB S w w2 :=
  ⟨ho.os.trans h.os, ho.tape.trans h.tape, ho.output.trans h.output, Nat.le_trans h.size ho.size, fun k hk hn => (ho.block k (Nat.lt_of_lt_of_le hk h.size) (fun e => hn (e ▸ hP))).trans (h.block k hk hn)⟩
end
theorem RegAt.base {B R : Nat} {g : RegS} {vb vp : Value} {W : World} (h : RegAt B R g vb vp W) : B ≤ W.drew.heap.size := Nat.le_trans h.hB (Nat.le_of_lt (blk_lt h.reg))
structure EnC (B R : Nat) (g : RegS) (vb vp : Value) (y : Ent) (r E : Nat) (e : Evt) (S : Nat → Prop) (w W : World) : Prop where
  ra : RegAt B R g vb vp W
  yb : W.heap[r]? = some (.cells (entC y).toArray 31 (0, 0))
  eb : W.heap[E]? = some (.cells (evtC e).toArray 29 (0, 0))
  kp : KeepB S w W
section
variable {B R r E i PB cp k u : Nat} {g : RegS} {vb vp : Value} {y : Ent} {e : Evt} {S : Nat → Prop} {w W W5 w2 : World} {q q' : PkV} {v' : Value}
theorem EnC.step (h : EnC B R g vb vp y r E e S w W) (hb : Below W.heap.size W w2) : EnC B R g vb vp y r E e S w w2 := ⟨h.ra.step hb, blk_step h.yb hb, blk_step h.eb hb, h.kp.step hb⟩
theorem EnC.used (h : EnC B R g vb vp y r E e S w W) (hk : k < 8) (hS : S R) : EnC B R { g with used := g.used.set k u } vb vp y r E e S w (W.setCell ⟨R, 2 + k, none⟩ (.int .i64 (u : Int))) := by
  have hR := h.ra.reg
  refine ⟨h.ra.setUsed hk, blk_set_other h.yb (fun c => ?_), blk_set_other h.eb (fun c => ?_), h.kp.set hS⟩
  · have c2 : r = R := c
    have := h.yb
    rw [c2, hR] at this
    exact absurd this (by simp)
  · have c2 : E = R := c
    have := h.eb
    rw [c2, hR] at this
    exact absurd this (by simp)
theorem EnC.ents (h : EnC B R g vb vp y r E e S w W) (hvp : vp = .slice (some ⟨PB, 0, none⟩) g.qs.length cp) (hq : g.qs[i]? = some q) (hg : W.grownBy W5 q.ve.ownBlock) (ho : W5.ownsRow B 31 10 v' (q.es.length + 1) (flatY q.es ++ entC y))
    (hat : v'.ownBlock = q.ve.ownBlock ∨ v'.ownBlock = some W.heap.size) (hr : ∀ k, q.ve.ownBlock = some k → k ≠ r) (hS : S PB) (hS2 : ∀ k, q.ve.ownBlock = some k → k < w.heap.size → S k) :
    EnC B R { g with qs := g.qs.set i { q with es := q.es ++ [y], ve := v' } } vb vp y r E e S w (W5.setCell ⟨PB, i * 20 + 19, none⟩ v') := by
  have hqm := List.mem_of_getElem? hq
  obtain ⟨PB2, cp2, cur, ea, -, hPB, -⟩ := h.ra.packs (by rintro e; rw [e] at hq; cases hq)
  rw [hvp] at ea
  cases ea
  have hPB5 := blk_kept hPB hg (h.ra.es q hqm) (by decide)
  refine ⟨h.ra.setEs hvp hq hg ho hat, blk_set_other ((hg.block r (blk_lt h.yb) (fun c => hr r c.symm rfl)).trans h.yb) (fun c => ?_), blk_set_other (blk_kept h.eb hg (h.ra.es q hqm) (by decide)) (fun c => ?_), (h.kp.grown hg hS2).set hS⟩
  · have c2 : r = PB := c
    have := h.yb
    rw [c2, hPB] at this
    exact absurd this (by simp)
  · have c2 : E = PB := c
    have := h.eb
    rw [c2, hPB] at this
    exact absurd this (by simp)
theorem EnC.pk (h : EnC B R g vb vp y r E e S w W) (hvp : vp = .slice (some ⟨PB, 0, none⟩) g.qs.length cp) (hq : g.qs[i]? = some q) (ho : OnlyB 116 PB (i * 20) 20 W w2) (hc : ∀ (j : Nat) (u : Value), (pkC q')[j]? = some u → w2.cell? ⟨PB, i * 20 + j, none⟩ = some u)
    (hm : SRow q'.vm q'.life.ms w2 ∧ SRow q'.vo q'.life.os w2 ∧ (q'.life.n = 0 → q'.vm = .slice none 0 0 ∧ q'.life.ms = [])) (he : q'.ve = q.ve ∧ q'.es = q.es) (hS : S PB) : EnC B R { g with qs := g.qs.set i q' } vb vp y r E e S w w2 := by
  obtain ⟨cs, cs', c1, -⟩ := ho.cells
  refine ⟨h.ra.setPk hvp hq ho hc hm he, (ho.block r (blk_lt h.yb) (fun c => ?_)).trans h.yb, (ho.block E (blk_lt h.eb) (fun c => ?_)).trans h.eb, h.kp.only ho hS⟩
  · have := h.yb
    rw [c, c1] at this
    exact absurd this (by simp)
  · have := h.eb
    rw [c, c1] at this
    exact absurd this (by simp)
end
end Go.Proofs.YtmpilgkfbibhlaaGreatDoor
