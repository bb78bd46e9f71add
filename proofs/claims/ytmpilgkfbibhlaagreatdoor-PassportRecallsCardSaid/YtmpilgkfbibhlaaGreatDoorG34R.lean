/-
 events, fires of the laws' worlds.
-/
import Derived.Test.YtmpilgkfbibhlaaGreatDoorG33R
import Derived.Test.YtmpilgkfbibhlaaGreatDoorG20R
import Derived.Test.YtmpilgkfbibhlaaGreatDoorG31R
set_option linter.unusedSimpArgs false
set_option linter.unusedVariables false
namespace Go.Proofs.YtmpilgkfbibhlaaGreatDoor
open Sx Go.RowKit Mr
def fireP (h : List Evt) : Bool := h.foldl (fun o e => if e.1 = 8 then false else if e.1 = 7 then true else o) false
theorem fireP_snoc (h : List Evt) (e : Evt) : fireP (h ++ [e]) = if e.1 = 8 then false else if e.1 = 7 then true else fireP h := by unfold fireP; rw [List.foldl_append]; rfl
set_option maxHeartbeats 4000000 in
set_option maxRecDepth 20000 in
theorem events_any {w0 w : World} {Wd R : Nat} {vb vk : Value} {bks : List Bk} {S : WdS} (h : WdE w0 Wd R vb vk bks S w) (ho : OkA S.a) (nm : ByteArray) (p : ByteArray × List Ent) (hp : S.a.ps[findA nm S.a]? = some p) : Calls Tryz.prog 22 #[.pointer (some ⟨Wd, 0, none⟩), .string nm] w fun en w' => ∃ v', en = .returned v' ∧ w'.ownsRow w.heap.size 29 6 v' p.2.length (flatE (evsOf p.2)) ∧ Below w.heap.size w w' := by
 obtain ⟨g, vp, vpk, vmd, vbt, vmk, h⟩ := h
 have CE := Lib.hid (Entries_yes h.v ho nm p hp)
 have c0 := blk_cell (o := 0) h.blk rfl
 have cl := blk_lt h.blk
 have hpl := (ho.p p (List.mem_of_getElem? hp)).1
 have HPL := Lib.hid hpl
 have HI0 := Lib.hid (info_parts infoEv)
 clear h ho hp
 go_enter Tryz.func22, Tryz.ntmps22
 go_upto_region 2 with (go_at_call 16; refine CE.out.mono ?_; rintro e w1 ⟨v9, rfl, hrow, hb1⟩; obtain ⟨av, cv, ev⟩ := row_slice hrow; subst ev; have HR := Lib.hid hrow; have HB1 := Lib.hid hb1; clear hrow hb1)
 clear c0 cl CE
 go_wp2_with fail
 go_loopw [7, 8] (fun v ix wr => ∃ i : Nat, i ≤ p.2.length ∧ ix = .int .i64 i ∧ Hid (wr.ownsRow w1.heap.size 29 6 v i (flatE (evsOf (p.2.take i)))) ∧ Hid (Below w1.heap.size w1 wr)) (fun _ ix _ => p.2.length - (intOf ix).toNat)
 case atStart => exact ⟨0, by omega, rfl, ⟨rfl, Or.inl ⟨rfl, rfl⟩⟩, Below.refl _ _⟩
 case round =>
  obtain ⟨i, hi2, rfl, HO, HW⟩ := hrel
  by_cases hc : i < p.2.length
  ·have c1 : (i : Int) < p.2.length := by omega
   have c0 : (0 : Int) ≤ i := by omega
   obtain ⟨y, hk⟩ : ∃ y, p.2[i]? = some y := ⟨p.2[i], List.getElem?_eq_getElem hc⟩
   obtain ⟨b, rfl, hb0, hcs⟩ := row_cells (b := 0) (c := cv) HR.out (by omega)
   have HS : Hid (p.2.take (i + 1) = p.2.take i ++ [y]) := by unfold Hid; rw [List.take_add_one, hk]; rfl
   obtain ⟨⟨k, t, a1, b1, nm9, ot⟩, by_, pad, head, tag⟩ := y
   have lb := Nat.lt_of_lt_of_le hb0 HW.out.size
   have g0 : wr.cell? ⟨b, i * 10, none⟩ = some (.int .i64 k) := cell_step (hcs (i * 10 + 0) _ (flatY_at hk rfl)) HW.out
   have g1 : wr.cell? ⟨b, i * 10 + 1, none⟩ = some (.int .i64 t) := cell_step (hcs (i * 10 + 1) _ (flatY_at hk rfl)) HW.out
   have g2 : wr.cell? ⟨b, i * 10 + 2, none⟩ = some (.int .i64 a1) := cell_step (hcs (i * 10 + 2) _ (flatY_at hk rfl)) HW.out
   have g3 : wr.cell? ⟨b, i * 10 + 3, none⟩ = some (.int .i64 b1) := cell_step (hcs (i * 10 + 3) _ (flatY_at hk rfl)) HW.out
   have g4 : wr.cell? ⟨b, i * 10 + 4, none⟩ = some (.string nm9) := cell_step (hcs (i * 10 + 4) _ (flatY_at hk rfl)) HW.out
   have g5 : wr.cell? ⟨b, i * 10 + 5, none⟩ = some (.string ot) := cell_step (hcs (i * 10 + 5) _ (flatY_at hk rfl)) HW.out
   clear hcs hk hc hb0
   go_wp2_with (at_builtin; refine wpList_app _ rfl (.tmp 28) (.tmp 34) 61 rfl w1.heap.size 29 HI0.out.choose _ 6 64 Tryz.underlying61 HI0.out.choose_spec.1 HI0.out.choose_spec.2.1 HI0.out.choose_spec.2.2.1 HI0.out.choose_spec.2.2.2 rfl (by decide) _ i (flatE (evsOf (p.2.take i))) rfl (own_step HO.out (bAl (o := .cells (evtC (k, t, a1, b1, nm9, ot)).toArray 29))) (some ⟨wr.heap.size, 0, none⟩) 1 1 (evtC (k, t, a1, b1, nm9, ot)) rfl rfl new_cells6 (evtC_one _) (by have := HPL.out; unfold maxLen; omega) (by have := HPL.out; omega) (by have := HW.out.size; simp; omega) ?_; intro v' w5 hown hgrow hat; have hO2 : Hid (w5.ownsRow w1.heap.size 29 6 v' (i + 1) (flatE (evsOf (p.2.take (i + 1))))) := (by unfold Hid; rw [HS.out]; unfold evsOf; rw [List.map_append]; exact (flatE_snoc _ _) ▸ hown); have hB2 : Hid (Below w1.heap.size w1 w5) := (bAlloc HW.out _).grown hgrow (by have := HW.out.size; simp; omega) (fun k hk => (World.ownsRow.lt HO.out k hk).1); clear hown hgrow hat)
   exact ⟨⟨i + 1, by omega, by push_cast; rfl, hO2, hB2⟩, by simp [intOf]; omega⟩
  ·obtain rfl : i = p.2.length := by omega
   have hO : Hid (wr.ownsRow w1.heap.size 29 6 u7 p.2.length (flatE (evsOf p.2))) := by have q := HO.out; rw [List.take_of_length_le (Nat.le_refl _)] at q; exact q
   obtain ⟨a9, c9, e9⟩ := row_slice hO.out
   subst e9
   clear hc
   go_wp2_with fail
   exact bodyPost_ret (v := .slice a9 p.2.length c9) (by simp only [results, Tryz.results22]; go_simp) rfl ⟨_, rfl, own_low hO.out HB1.out.size, bStep HB1.out HW.out⟩
set_option maxHeartbeats 4000000 in
set_option maxRecDepth 20000 in
theorem fires_any {w0 w : World} {Wd R : Nat} {vb vk : Value} {bks : List Bk} {S : WdS} (h : WdE w0 Wd R vb vk bks S w) (ho : OkA S.a) (nm : ByteArray) (p : ByteArray × List Ent) (hp : S.a.ps[findA nm S.a]? = some p) : Calls Tryz.prog 18 #[.pointer (some ⟨Wd, 0, none⟩), .string nm] w fun en w' => en = .returned (.bool (fireP (evsOf p.2))) ∧ Below w.heap.size w w' := by
 have CE := Lib.hid (events_any h ho nm p hp)
 have hpl := (ho.p p (List.mem_of_getElem? hp)).1
 have hlen : (evsOf p.2).length = p.2.length := evs_len p.2
 generalize evsOf p.2 = es at *
 rw [← hlen] at CE hpl
 clear hlen h ho hp
 go_enter Tryz.func18, Tryz.ntmps18
 go_upto_region 3 with (go_at_call 22; refine CE.out.mono ?_; rintro e w1 ⟨v9, rfl, hrow, hb1⟩; obtain ⟨av, cv, ev⟩ := row_slice hrow; subst ev; have HR := Lib.hid hrow; have HB1 := Lib.hid hb1; clear hrow hb1)
 clear CE
 go_wp2_with fail
 go_loopw [5, 7] (fun v ix wr => ∃ i : Nat, i ≤ es.length ∧ ix = .int .i64 i ∧ v = .bool (fireP (es.take i)) ∧ Hid (Below w1.heap.size w1 wr)) (fun _ ix _ => es.length - (intOf ix).toNat)
 case atStart => exact ⟨0, by omega, rfl, rfl, Below.refl _ _⟩
 case round =>
  obtain ⟨i, hi2, rfl, rfl, HW⟩ := hrel
  by_cases hc : i < es.length
  ·have c1 : (i : Int) < es.length := by omega
   have c0 : (0 : Int) ≤ i := by omega
   obtain ⟨y, hk⟩ : ∃ y, es[i]? = some y := ⟨es[i], List.getElem?_eq_getElem hc⟩
   obtain ⟨b, rfl, hb0, hcs⟩ := row_cells (b := 0) (c := cv) HR.out (by omega)
   have lb := Nat.lt_of_lt_of_le hb0 HW.out.size
   have HS : Hid (fireP (es.take (i + 1)) = if y.1 = 8 then false else if y.1 = 7 then true else fireP (es.take i)) := by unfold Hid; rw [List.take_add_one, hk]; exact fireP_snoc _ _
   obtain ⟨k, t, a1, b1, nm9, ot⟩ := y
   have g0 : wr.cell? ⟨b, i * 6, none⟩ = some (.int .i64 k) := cell_step (hcs (i * 6 + 0) _ (flatE_at hk rfl)) HW.out
   generalize fireP (es.take i) = o1 at *
   clear hcs hk hc hb0
   dsimp only at HS
   by_cases k8 : k = 8
   ·subst k8
    rw [if_pos rfl] at HS
    go_wp2_with fail
    exact ⟨⟨i + 1, by omega, by push_cast; rfl, by rw [HS.out], HW⟩, by simp [intOf]; omega⟩
   ·rw [if_neg k8] at HS
    by_cases k7 : k = 7
    ·subst k7
     rw [if_pos rfl] at HS
     clear k8
     go_wp2_with fail
     exact ⟨⟨i + 1, by omega, by push_cast; rfl, by rw [HS.out], HW⟩, by simp [intOf]; omega⟩
    ·rw [if_neg k7] at HS
     have q8 : (k == 8) = false := by simpa using k8
     have q7 : (k == 7) = false := by simpa using k7
     clear k7 k8
     go_wp2_with fail
     exact ⟨⟨i + 1, by omega, by push_cast; rfl, by rw [HS.out], HW⟩, by simp [intOf]; omega⟩
  ·obtain rfl : i = es.length := by omega
   have HF : Hid (fireP (es.take es.length) = fireP es) := by unfold Hid; rw [List.take_length]
   generalize fireP (es.take es.length) = o1 at *
   clear hc
   go_wp2_with fail
   exact bodyPost_ret (v := .bool o1) (by simp only [results, Tryz.results18]; go_simp) rfl ⟨by rw [HF.out], bStep HB1.out HW.out⟩
end Go.Proofs.YtmpilgkfbibhlaaGreatDoor
namespace Go.Proofs.YtmpilgkfbibhlaaGreatDoor
open Go
section
variable {a : RegA} {n i : Nat} {e : Evt} {p : ByteArray × List Ent} {β : Type}
theorem flatA_put (F : ByteArray × List Ent → List β) {z : List β} (hp : a.ps[i]? = some p) (hz : (F (putP a n e p)).Perm (z ++ F p)) : ((putA a n i e).ps.flatMap F).Perm (z ++ a.ps.flatMap F) := by
 rw [putA_at hp]
 exact flat_set F a.ps i p (putP a n e p) z hp hz
theorem flatA_less (F : ByteArray × List Ent → List β) {z : List β} (hp : a.ps[i]? = some p) (hz : (F p).Perm (z ++ F (putP a n e p))) : (a.ps.flatMap F).Perm (z ++ (putA a n i e).ps.flatMap F) := by
 have hi := (List.getElem?_eq_some_iff.1 hp).1
 have h := flat_set F (a.ps.set i (putP a n e p)) i (putP a n e p) p z (List.getElem?_set_self hi) hz
 have e1 : (a.ps.set i (putP a n e p)).set i p = a.ps := by
  rw [List.set_set]
  refine List.ext_getElem? fun k => ?_
  by_cases c : i = k
  ·subst c; rw [List.getElem?_set_self hi, hp]
  ·rw [List.getElem?_set_ne c]
 rw [e1] at h
 rw [putA_at hp]
 exact h
end
def shutP (p : ByteArray × List Ent) : List Unit := if hasT (lf p).os fireT = true then [] else [()]
def cntA (a : RegA) : Nat := (allE a).length + (a.ps.flatMap shutP).length
theorem shut_le (p : ByteArray × List Ent) : (shutP p).length ≤ 1 := by unfold shutP; split <;> decide
theorem unit_perm : ∀ {l l' : List Unit}, l.length = l'.length → l.Perm l'
 | [], [], _ => List.Perm.refl _
 | [], _ :: _, h => by cases h
 | _ :: _, [], h => by cases h
 | () :: l, () :: l', h => (unit_perm (Nat.succ.inj h)).cons ()
theorem cnt_put {a : RegA} {n i : Nat} {e : Evt} {p : ByteArray × List Ent} (hp : a.ps[i]? = some p) (d : Nat) (hd : (shutP (putP a n e p)).length + 1 ≤ (shutP p).length + d) : cntA (putA a n i e) ≤ cntA a + d := by
 have h1 := (allE_put (n := n) (e := e) hp).length_eq
 rw [List.length_cons] at h1
 have hp1 := shut_le p
 have hp2 := shut_le (putP a n e p)
 unfold cntA
 rw [h1]
 rcases Nat.lt_or_ge (shutP (putP a n e p)).length (shutP p).length with c | c
 ·have h2 := (flatA_less (n := n) (e := e) shutP (z := [()]) hp (unit_perm (by rw [List.length_append, List.length_singleton]; omega))).length_eq
  rw [List.length_append, List.length_singleton] at h2
  omega
 ·rcases Nat.lt_or_ge (shutP p).length (shutP (putP a n e p)).length with c2 | c2
  ·have h2 := (flatA_put (n := n) (e := e) shutP (z := [()]) hp (unit_perm (by rw [List.length_append, List.length_singleton]; omega))).length_eq
   rw [List.length_append, List.length_singleton] at h2
   omega
  ·have h2 := (flatA_put (n := n) (e := e) shutP (z := []) hp (unit_perm (by rw [List.nil_append]; omega))).length_eq
   rw [List.nil_append] at h2
   omega
theorem os_same {x : LifeS} {nm : ByteArray} {e : Evt} (h : e.1 ≠ 7 ∧ e.1 ≠ 8) : (x.add nm e).os = x.os := by
 obtain ⟨k, t, ea, eb, n1, ot⟩ := e
 show opnStep x.os (k, t, ea, eb, n1, ot) = x.os
 unfold opnStep
 dsimp only at h ⊢
 rw [if_neg h.1, if_neg h.2]
theorem hasT_drop (l : List ByteArray) (s : ByteArray) : hasT (dropT l s) s = false := by
 cases h : hasT (dropT l s) s
 ·rfl
 ·have := (List.mem_filter.1 (hasT_iff.1 h)).2
  rw [eqT_iff.2 rfl] at this
  cases this
theorem hasT_snoc (l : List ByteArray) (s : ByteArray) : hasT (l ++ [s]) s = true := hasT_iff.2 (by simp)
theorem cnt_same {a : RegA} {n i : Nat} {e : Evt} {p : ByteArray × List Ent} (hp : a.ps[i]? = some p) (h : e.1 ≠ 7 ∧ e.1 ≠ 8) : cntA (putA a n i e) ≤ cntA a + 1 := by
 refine cnt_put hp 1 ?_
 have : shutP (putP a n e p) = shutP p := by unfold shutP; rw [lf_put, os_same h]
 rw [this]
 omega
theorem cnt_any {a : RegA} {n i : Nat} {e : Evt} {p : ByteArray × List Ent} (hp : a.ps[i]? = some p) : cntA (putA a n i e) ≤ cntA a + 2 := cnt_put hp 2 (by have := shut_le (putP a n e p); omega)
theorem cnt_rec {a : RegA} {n i : Nat} {t : Int} {p : ByteArray × List Ent} (hp : a.ps[i]? = some p) (hc : canP p.1 (lf p) (recE t fireT) = true) : cntA (putA a n i (recE t fireT)) ≤ cntA a := by
 refine cnt_put hp 0 ?_
 have h1 : hasT (lf p).os fireT = false := by
  unfold canP at hc
  split at hc
  ·exact absurd (of_decide_eq_true hc) (show ¬ (7 : Int) = 1 by decide)
  ·split at hc
   ·cases hc
   ·split at hc
    ·cases hc
    ·simpa [ruleB, recE] using hc
 have h2 : hasT (lf (putP a n (recE t fireT) p)).os fireT = true := by
  rw [lf_put]
  show hasT (opnStep (lf p).os (7, t, 0, 0, fireT, emp)) fireT = true
  unfold opnStep
  dsimp only
  rw [if_pos rfl]
  exact hasT_snoc _ _
 unfold shutP
 rw [h1, h2]
 decide
theorem cnt_new (a : RegA) (nm : ByteArray) : cntA { a with ps := a.ps ++ [(nm, [])] } = cntA a + 1 := by
 unfold cntA
 rw [allE_new]
 show _ + ((a.ps ++ [(nm, [])]).flatMap shutP).length = _
 rw [List.flatMap_append]
 show _ + (_ ++ ([()] ++ [])).length = _
 simp
 omega
structure RcA (t : Int) (a : RegA) : Prop where
 tm : ∀ p ∈ a.ps, (lf p).at_ ≤ t
 op : ∀ p ∈ a.ps, hasT (lf p).os fireT = fireP (evsOf p.2)
theorem RcA.put (t : Int) : PutC (fun e => e.2.1 = t ∧ (e.1 = 7 ∨ e.1 = 8 → e.2.2.2.2.1 = fireT)) (RcA t) := by
 intro a n i e p hK h hp hok hcan hn hu ho
 refine ⟨fun q hq => ?_, fun q hq => ?_⟩
 all_goals
  obtain ⟨j, hj⟩ := List.getElem?_of_mem hq
  by_cases c : j = i
 ·subst c
  rw [putA_eq hp] at hj
  obtain rfl := Option.some.inj hj
  rw [lf_put]
  show e.2.1 ≤ t
  omega
 ·rw [putA_ne c] at hj
  exact h.tm q (List.mem_of_getElem? hj)
 ·subst c
  rw [putA_eq hp] at hj
  obtain rfl := Option.some.inj hj
  have h0 := h.op p (List.mem_of_getElem? hp)
  have hf : fireP (evsOf (putP a n e p).2) = if e.1 = 8 then false else if e.1 = 7 then true else fireP (evsOf p.2) := by
   show fireP (evsOf (p.2 ++ [newE a n e p])) = _
   rw [evs_snoc, fireP_snoc]
   rfl
  rw [hf, lf_put, ← h0]
  obtain ⟨k, et, ea, eb, n1, ot⟩ := e
  show hasT (opnStep (lf p).os (k, et, ea, eb, n1, ot)) fireT = _
  have hk := hK.2
  dsimp only at hk ⊢
  unfold opnStep
  dsimp only
  by_cases k7 : k = 7
  ·rw [if_pos k7, hk (Or.inl k7), hasT_snoc, if_neg (by omega), if_pos k7]
  ·by_cases k8 : k = 8
   ·rw [if_neg k7, if_pos k8, hk (Or.inr k8), hasT_drop, if_pos k8]
   ·rw [if_neg k7, if_neg k8, if_neg k8, if_neg k7]
 ·rw [putA_ne c] at hj
  exact h.op q (List.mem_of_getElem? hj)
theorem RcA.addP {t : Int} {a : RegA} (h : RcA t a) (ht : 0 ≤ t) (nm : ByteArray) : RcA t { a with ps := a.ps ++ [(nm, [])] } := by
 refine ⟨fun p hp => ?_, fun p hp => ?_⟩
 all_goals rcases List.mem_append.1 hp with hp | hp
 ·exact h.tm p hp
 ·obtain rfl := List.mem_singleton.1 hp
  exact ht
 ·exact h.op p hp
 ·obtain rfl := List.mem_singleton.1 hp
  rfl
theorem RcA.le {t t' : Int} {a : RegA} (h : RcA t a) (ht : t ≤ t') : RcA t' a := ⟨fun p hp => Int.le_trans (h.tm p hp) ht, h.op⟩
theorem resW_cnt {S : WdS} (ho : OkA S.a) (x : Sm) : cntA (resW S x).2 ≤ cntA S.a + 2 := by
 have h1 : ∀ (b : Int) (nm : ByteArray) (e : Evt), e.1 ≠ 1 → cntA (enterA S.a b nm e).2 ≤ cntA S.a + 2 := fun b nm e hk => by
  rcases enter_other (a := S.a) b nm e hk with ⟨c, -, q⟩ | ⟨n, p, -, h1, h2, h3, h4, -, h6, q⟩
  ·rw [q]; exact Nat.le_add_right _ _
  ·rw [q]; exact cnt_any h3
 unfold resW
 split
 ·rcases enter_made ho (byW x) (nameP S.packs.length) (madeW S x) rfl with ⟨c, -, q⟩ | ⟨n, -, k1, k2, k4, k5, k6, k7, k8, k9, q⟩
  ·rw [q]; exact Nat.le_add_right _ _
  ·rw [q]
   have h2 := cnt_same (n := n) (e := madeW S x) k7 ⟨show (1 : Int) ≠ 7 by decide, show (1 : Int) ≠ 8 by decide⟩
   have h3 := cnt_new S.a (nameP S.packs.length)
   dsimp only at h2 ⊢
   omega
 ·split
  ·exact h1 _ _ _ (show (2 : Int) ≠ 1 by decide)
  ·split
   ·exact h1 _ _ _ (show (3 : Int) ≠ 1 by decide)
   ·split
    ·exact h1 _ _ _ (show (4 : Int) ≠ 1 by decide)
    ·split
     ·rcases move_cases ho (byW x) (atW S x) (modW S x) (toW S x) with ⟨c, -, q⟩ | ⟨n, p, y, -, k1, k2, k3, k4, k5, k6, k7, k8, k9, k10, k11, k12, q⟩
      ·rw [q]; exact Nat.le_add_right _ _
      ·rw [q]
       have g1 := cnt_same (n := n) (e := takeE (atW S x) (modW S x) (toW S x)) k2 ⟨show (6 : Int) ≠ 7 by decide, show (6 : Int) ≠ 8 by decide⟩
       have g2 := cnt_same (n := n) (e := bringE (atW S x) (modW S x) p.1) k11 ⟨show (5 : Int) ≠ 7 by decide, show (5 : Int) ≠ 8 by decide⟩
       dsimp only
       omega
     ·split
      ·have hC : PutC (fun e => e = recE (atW S x) fireT) (fun a => cntA a ≤ cntA S.a) := fun a n i e p hK h hp _ hcan _ _ _ => by
        subst hK
        exact Nat.le_trans (cnt_rec hp hcan) h
       have := recallA_keep hC ho (Nat.le_refl _) (byW x) (atW S x) (batchP x.t) 0 (x.m : Int) fireT rfl
       exact Nat.le_trans this (Nat.le_add_right _ _)
      ·split
       ·exact h1 _ _ _ (show (8 : Int) ≠ 1 by decide)
       ·exact h1 _ _ _ (show (9 : Int) ≠ 1 by decide)
structure RcW (S : WdS) (i : Nat) : Prop where
 rc : RcA S.at_ S.a
 ct : cntA S.a ≤ 2 * i
 mad : ∀ (k : Nat) (p : ByteArray × List Ent), S.a.ps[k]? = some p → S.bts[k]? = some (lf p).made.2.2.2.2.1 ∧ S.mds[k]? = some (lf p).made.2.1
 mn : ∀ t ∈ S.mds, 0 ≤ t
theorem RcW.zero {pt : Nat} {bks : List Bk} : RcW ⟨newA pt bks, 0, [], [], [], []⟩ 0 := by
 refine ⟨⟨(fun p hp => by cases hp), (fun p hp => by cases hp)⟩, Nat.le_refl _, fun k p hk => ?_, fun t ht => by cases ht⟩
 simp [newA] at hk
theorem made_keep (f : Nat → Option ByteArray) (g : Nat → Option Int) : PutC (fun e => e.1 ≠ 1) (fun a => ∀ (k : Nat) (p : ByteArray × List Ent), a.ps[k]? = some p → f k = some (lf p).made.2.2.2.2.1 ∧ g k = some (lf p).made.2.1) := by
 intro a n i e p hK h hp hok hcan hn hu ho k q hq
 by_cases c : k = i
 ·subst c
  rw [putA_eq hp] at hq
  obtain rfl := Option.some.inj hq
  rw [lf_put]
  have : ((lf p).add p.1 e).made = (lf p).made := by show (if e.1 = 1 then e else (lf p).made) = _; rw [if_neg hK]
  rw [this]
  exact h k p hp
 ·rw [putA_ne c] at hq
  exact h k q hq
theorem RcW.do_ {S : WdS} {i : Nat} (ho : OkW S i) (h : RcW S i) (x : Sm) : RcW (doW S x) (i + 1) := by
 have hat := atW_in ho x
 have hct := resW_cnt ho.ok x
 have hc := h.ct
 have hrc : RcA (atW S x) (resW S x).2 := resW_keep (RcA.put (atW S x)) ho.ok (h.rc.le hat.1) x (fun e e1 e2 _ _ => ⟨e1, e2⟩) (fun _ _ => (h.rc.le hat.1).addP hat.2.1 _)
 by_cases h3 : x.do_ % 11 < 3
 ·have hr : ∀ A : RegA, (doW S x).a = A → (resW S x).2 = A := fun A e => by
   rw [← e]
   unfold doW
   split <;> rfl
  rcases doW_made ho.ok h3 with q | ⟨n, h1, h2, h4, h5, h6, h7, h8, q⟩
  ·have e := hr S.a (by rw [q])
   rw [e] at hrc hct
   rw [q]
   exact ⟨hrc, by show cntA S.a ≤ 2 * (i + 1); omega, h.mad, h.mn⟩
  ·have e := hr (madeA S x n) (by rw [q]; rfl)
   rw [e] at hrc hct
   rw [q]
   refine ⟨hrc, by show cntA (madeA S x n) ≤ 2 * (i + 1); omega, fun k p hk => ?_, fun t ht => ?_⟩
   ·show (S.bts ++ [batchP x.t])[k]? = _ ∧ (S.mds ++ [atW S x])[k]? = _
    have hlp : S.a.ps.length = S.packs.length := by rw [← ho.pk, List.length_map]
    have hbl := ho.bl
    have htl := ho.tl
    change (madeA S x n).ps[k]? = some p at hk
    unfold madeA at hk
    by_cases c : k = S.a.ps.length
    ·subst c
     rw [putA_eq h6] at hk
     obtain rfl := Option.some.inj hk
     rw [lf_put, List.getElem?_append_right (by omega), List.getElem?_append_right (by omega), show S.a.ps.length - S.bts.length = 0 by omega, show S.a.ps.length - S.mds.length = 0 by omega]
     exact ⟨rfl, rfl⟩
    ·rw [putA_ne c] at hk
     have hl := (List.getElem?_eq_some_iff.1 hk).1
     have hl2 : k < S.a.ps.length := by simp at hl; omega
     have hk2 : S.a.ps[k]? = some p := by rw [← hk]; exact (List.getElem?_append_left hl2).symm
     rw [List.getElem?_append_left (by omega), List.getElem?_append_left (by omega)]
     exact h.mad k p hk2
   ·change t ∈ S.mds ++ [atW S x] at ht
    rcases List.mem_append.1 ht with ht | ht
    ·exact h.mn t ht
    ·rw [List.mem_singleton.1 ht]; exact hat.2.1
 ·rw [doW_other h3]
  exact ⟨hrc, by show cntA (resW S x).2 ≤ 2 * (i + 1); omega, resW_keep (made_keep (fun k => S.bts[k]?) (fun k => S.mds[k]?)) ho.ok h.mad x (fun e _ _ k1 _ c => h3 (k1 c).2) (fun c => absurd c h3), h.mn⟩
end Go.Proofs.YtmpilgkfbibhlaaGreatDoor
namespace Go.Proofs.YtmpilgkfbibhlaaGreatDoor
open Sx Go.RowKit Mr
def padW (s i k : Nat) : Nat := (s + 1) * (k + 3) * (k + 5 * i + 1) % 2147483647
def padsW (s i n : Nat) : List Nat := (List.range n).map (padW s i)
def bookW (s i : Nat) : Bk := (1000 + 7 * i + s, padsW s i 400)
def booksW (s n : Nat) : List Bk := (List.range n).map (bookW s)
theorem padsW_len (s i n : Nat) : (padsW s i n).length = n := by unfold padsW; rw [List.length_map, List.length_range]
theorem booksW_len (s n : Nat) : (booksW s n).length = n := by unfold booksW; rw [List.length_map, List.length_range]
theorem padsW_snoc (s i n : Nat) : padsW s i (n + 1) = padsW s i n ++ [padW s i n] := by unfold padsW; rw [List.range_succ, List.map_append]; rfl
theorem booksW_snoc (s n : Nat) : booksW s (n + 1) = booksW s n ++ [bookW s n] := by unfold booksW; rw [List.range_succ, List.map_append]; rfl
theorem secW (s : Nat) (hs : s < 256) : secR 123456789 (booksW s 3) = 0 := by
 have hb : (booksW s 3).any badBk = false := by
  refine List.any_eq_false.2 fun bk hbk => ?_
  obtain ⟨i, hi, rfl⟩ := List.mem_map.1 hbk
  have hi := List.mem_range.1 hi
  have hp : (padsW s i 400).any (fun n => decide (P31 ≤ n)) = false := by
   refine List.any_eq_false.2 fun n hn => ?_
   obtain ⟨k, -, rfl⟩ := List.mem_map.1 hn
   have : padW s i k < 2147483647 := Nat.mod_lt _ (by decide)
   unfold P31
   simpa using this
  show ¬ (decide (1000 + 7 * i + s < 1) || decide (P31 ≤ 1000 + 7 * i + s) || decide (5000 < (padsW s i 400).length) || (padsW s i 400).any fun n => decide (P31 ≤ n)) = true
  rw [hp, padsW_len]
  have h1 : decide (1000 + 7 * i + s < 1) = false := decide_eq_false (by omega)
  have h2 : decide (P31 ≤ 1000 + 7 * i + s) = false := decide_eq_false (by unfold P31; omega)
  rw [h1, h2]
  decide
 unfold secR
 rw [if_neg (by unfold P31; omega), if_neg (by rw [booksW_len, hb]; rintro (c | c | c); omega; omega; cases c)]
structure FiB (w1 : World) (B s i k : Nat) (v : Value) (W : World) : Prop where
 bel : Below w1.heap.size w1 W
 hB : w1.heap.size ≤ B
 b : W.heap[B]? = some (.cells #[.int .u64 ((bookW s i).1 : Int), v] 85 (0, 0))
 o : W.ownsRow w1.heap.size 22 1 v k (padC (padsW s i k))
theorem oneU (i : Int) : ∀ u ∈ [Value.int .u64 i], u.oneCell' = true := by
 intro u hu
 simp at hu
 subst hu
 rfl
theorem FiB.app {w1 W W5 : World} {B s i k : Nat} {v v' : Value} (h : FiB w1 B s i k v W) (hg : W.grownBy W5 v.ownBlock) (ho : W5.ownsRow w1.heap.size 22 1 v' (k + 1) (padC (padsW s i k) ++ [.int .u64 (padW s i k : Int)])) : W5.heap[B]? = some (.cells #[.int .u64 ((bookW s i).1 : Int), v] 85 (0, 0)) ∧ FiB w1 B s i (k + 1) v' (W5.setCell ⟨B, 1, none⟩ v') := by
 have hb5 := blk_kept h.b hg h.o (by decide)
 refine ⟨hb5, (h.bel.grown hg h.bel.size fun q hq => (World.ownsRow.lt h.o q hq).1).setCell h.hB _, h.hB, blk_set hb5, ?_⟩
 have e : padC (padsW s i (k + 1)) = padC (padsW s i k) ++ [.int .u64 (padW s i k : Int)] := by rw [padsW_snoc]; unfold padC; rw [List.map_append]; rfl
 rw [e]
 exact own_setT ho hb5 (by decide)
theorem FiB.step {w1 W w2 : World} {B s i k : Nat} {v : Value} (h : FiB w1 B s i k v W) (hb : Below W.heap.size W w2) : FiB w1 B s i k v w2 := ⟨bStep h.bel hb, h.hB, blk_step h.b hb, own_step h.o hb⟩
theorem FiB.start (w1 : World) (s i : Nat) (hi : i < 3) (hs : s < 256) : FiB w1 w1.heap.size s i 0 (.slice none 0 0) (w1.alloc (.cells #[.int .u64 (1000 + 7 * (i : Int) + (s : Int)), .slice none 0 0] 85)) := by
 refine ⟨bAl, Nat.le_refl _, ?_, ⟨rfl, Or.inl ⟨rfl, rfl⟩⟩⟩
 have e : ((bookW s i).1 : Int) = 1000 + 7 * (i : Int) + (s : Int) := by
  have h0 : (bookW s i).1 = 1000 + 7 * i + s := rfl
  rw [h0]
  omega
 rw [e]
 exact blk_new w1 _
theorem padW_val (s i k : Nat) : ((s : Int) + 1) * ((k : Int) + 3) * ((k : Int) + 5 * (i : Int) + 1) = (((s + 1) * (k + 3) * (k + 5 * i + 1) : Nat) : Int) := by push_cast; rfl
theorem padW_bound {s i k : Nat} (hs : s < 256) (hi : i < 3) (hk : k < 400) : (s + 1) * (k + 3) ≤ 256 * 402 ∧ (s + 1) * (k + 3) * (k + 5 * i + 1) ≤ 256 * 402 * 410 := by
 have h1 : (s + 1) * (k + 3) ≤ 256 * 402 := Nat.mul_le_mul (by omega) (by omega)
 exact ⟨h1, Nat.mul_le_mul h1 (by omega)⟩
theorem BkO.add {w w1 W W5 : World} {B s i : Nat} {vb v v' : Value} (h : BkO w.heap.size (booksW s i) vb w1) (hw : Below w.heap.size w w1) (hF : FiB w1 B s i 400 v W) (hg : W.grownBy W5 vb.ownBlock) (l : List (Bk × Value)) (hl : l.map (·.1) = booksW s i) (ho0 : W.ownsRow w.heap.size 85 2 vb i (flatB l)) (hps : ∀ x ∈ l, W.ownsRow w.heap.size 22 1 x.2 x.1.2.length (padC x.1.2))
  (ho : W5.ownsRow w.heap.size 85 2 v' (i + 1) (flatB l ++ [.int .u64 ((bookW s i).1 : Int), v])) : BkO w.heap.size (booksW s (i + 1)) v' W5 := by
 refine ⟨⟨l ++ [(bookW s i, v)], by rw [List.map_append, hl, booksW_snoc]; rfl, ?_, fun x hx => ?_⟩⟩
 ·rw [booksW_len, flatB_snoc]
  exact ho
 ·rcases List.mem_append.1 hx with hx | hx
  ·exact own_kept (hps x hx) hg ho0 (by decide)
  ·obtain rfl := List.mem_singleton.1 hx
   show W5.ownsRow w.heap.size 22 1 v (padsW s i 400).length (padC (padsW s i 400))
   rw [padsW_len]
   exact own_kept (own_low hF.o hw.size) hg ho0 (by decide)
theorem bk_one (x : Int) (a : Option Addr) (n c : Nat) : ∀ u ∈ [Value.int .u64 x, .slice a n c], u.oneCell' = true := by
 intro u hu
 simp only [List.mem_cons, List.not_mem_nil, or_false] at hu
 rcases hu with rfl | rfl <;> rfl
set_option maxHeartbeats 8000000 in
set_option maxRecDepth 20000 in
theorem begin_any (s : Nat) (hs : s < 256) (w : World) : Calls Tryz.prog 14 #[.int .u8 (s : Int)] w fun en w' => ∃ Wd R vb vk, en = .returned (.tuple #[.pointer (some ⟨Wd, 0, none⟩), .bool true]) ∧ WdE w Wd R vb vk (booksW s 3) ⟨newA 123456789 (booksW s 3), 0, [], [], [], []⟩ w' := by
 have hw0 : IntKind.u64.wrap (s : Int) = (s : Int) := Go.IntWalk.u64_in _ ⟨by omega, by omega⟩
 have HI0 := Lib.hid (info_parts infoU8)
 go_enter Tryz.func14, Tryz.ntmps14
 go_wp2_with fail
 go_loopw [4, 5] (fun v ix wr => ∃ i : Nat, i ≤ 3 ∧ ix = .int .u64 i ∧ Hid (BkO w.heap.size (booksW s i) v wr) ∧ Hid (Below w.heap.size w wr)) (fun _ ix _ => 3 - (intOf ix).toNat)
 case atStart => exact ⟨0, by omega, rfl, BkO.nil _ _, Below.refl _ _⟩
 case round =>
  obtain ⟨i, hi, rfl, HO, HW⟩ := hrel
  by_cases hc : i < 3
  ·have c1 : (i : Int) < 3 := by omega
   have c0 : (0 : Int) ≤ i := by omega
   have hw1 : IntKind.u64.wrap (7 * (i : Int)) = 7 * (i : Int) := Go.IntWalk.u64_in _ ⟨by omega, by omega⟩
   have hw2 : IntKind.u64.wrap (1000 + 7 * (i : Int)) = 1000 + 7 * (i : Int) := Go.IntWalk.u64_in _ ⟨by omega, by omega⟩
   have hw3 : IntKind.u64.wrap (1000 + 7 * (i : Int) + (s : Int)) = 1000 + 7 * (i : Int) + (s : Int) := Go.IntWalk.u64_in _ ⟨by omega, by omega⟩
   obtain ⟨ab, cb, ev, -⟩ := HO.out.bk
   rw [booksW_len] at ev
   subst ev
   go_upto_region 6 with fail
   generalize wr = w1 at *
   have HF0 : Hid (FiB w1 w1.heap.size s i 0 (.slice none 0 0) (w1.alloc (.cells #[.int .u64 (1000 + 7 * (i : Int) + (s : Int)), .slice none 0 0] 85))) := FiB.start w1 s i hc hs
   generalize w1.alloc (.cells #[.int .u64 (1000 + 7 * (i : Int) + (s : Int)), .slice none 0 0] 85) = wa at *
   clear hw1 hw2 hw3
   go_wp2_with fail
   go_loopw [7] (fun kx wv => ∃ k : Nat, k ≤ 400 ∧ kx = .int .u64 k ∧ Hid (∃ v, FiB w1 w1.heap.size s i k v wv)) (fun kx _ => 400 - (intOf kx).toNat)
   case atStart => exact ⟨0, by omega, rfl, _, HF0.out⟩
   case round =>
    obtain ⟨k, hk, rfl, HV⟩ := hrel
    obtain ⟨v, hF⟩ := HV.out
    obtain ⟨av, cv, ev⟩ := row_slice hF.o
    subst ev
    have HF := Lib.hid hF
    clear hF HV HF0
    have t0 := blk_cell (o := 0) HF.out.b rfl
    have t1 := blk_cell (o := 1) HF.out.b rfl
    have tl := blk_lt HF.out.b
    by_cases hd : k < 400
    ·have d1 : (k : Int) < 400 := by omega
     obtain ⟨p1, p2⟩ := padW_bound hs hc hd
     have pv := padW_val s i k
     have pe : ((s : Int) + 1) * ((k : Int) + 3) = (((s + 1) * (k + 3) : Nat) : Int) := by push_cast; rfl
     have q1 : IntKind.u64.wrap ((s : Int) + 1) = (s : Int) + 1 := Go.IntWalk.u64_in _ ⟨by omega, by omega⟩
     have q2 : IntKind.u64.wrap ((k : Int) + 3) = (k : Int) + 3 := Go.IntWalk.u64_in _ ⟨by omega, by omega⟩
     have q3 : IntKind.u64.wrap (((s : Int) + 1) * ((k : Int) + 3)) = ((s : Int) + 1) * ((k : Int) + 3) := Go.IntWalk.u64_in _ ⟨by rw [pe]; omega, by rw [pe]; omega⟩
     have q4 : IntKind.u64.wrap (5 * (i : Int)) = 5 * (i : Int) := Go.IntWalk.u64_in _ ⟨by omega, by omega⟩
     have q5 : IntKind.u64.wrap ((k : Int) + 5 * (i : Int)) = (k : Int) + 5 * (i : Int) := Go.IntWalk.u64_in _ ⟨by omega, by omega⟩
     have q6 : IntKind.u64.wrap ((k : Int) + 5 * (i : Int) + 1) = (k : Int) + 5 * (i : Int) + 1 := Go.IntWalk.u64_in _ ⟨by omega, by omega⟩
     have q7 : IntKind.u64.wrap (((s : Int) + 1) * ((k : Int) + 3) * ((k : Int) + 5 * (i : Int) + 1)) = (((s + 1) * (k + 3) * (k + 5 * i + 1) : Nat) : Int) := by rw [pv]; exact Go.IntWalk.u64_in _ ⟨by omega, by omega⟩
     have q8 : Int.tmod (((s + 1) * (k + 3) * (k + 5 * i + 1) : Nat) : Int) 2147483647 = (padW s i k : Int) := by rw [Int.tmod_eq_emod_of_nonneg (by omega)]; rfl
     have q9 : IntKind.u64.wrap (padW s i k : Int) = (padW s i k : Int) := by have : padW s i k < 2147483647 := Nat.mod_lt _ (by decide); exact Go.IntWalk.u64_in _ ⟨by omega, by omega⟩
     have q10 : IntKind.u64.wrap ((k : Int) + 1) = (k : Int) + 1 := Go.IntWalk.u64_in _ ⟨by omega, by omega⟩
     obtain ⟨i0, hi0, hz0, hz1, hz2⟩ := HI0.out
     clear pv pe p1 p2 hd
     generalize (((s + 1) * (k + 3) * (k + 5 * i + 1) : Nat) : Int) = pr at *
     go_wp2_with (at_builtin; refine wpList_app _ rfl (.tmp 26) (.tmp 40) 83 rfl w1.heap.size 22 i0 _ 1 8 Tryz.underlying83 hi0 hz0 hz1 hz2 rfl (by decide) _ k (padC (padsW s i k)) rfl (own_step HF.out.o (bAl (o := .cells #[.int .u64 (padW s i k : Int)] 22))) (some ⟨wr.heap.size, 0, none⟩) 1 1 [.int .u64 (padW s i k : Int)] rfl rfl new_cellsB (oneU _) (by unfold maxLen; omega) (by omega) (by have := HF.out.bel.size; simp; omega) ?_; intro v' w5 hown hgrow hat; obtain ⟨a5, c5, e5⟩ := row_slice hown; subst e5; obtain ⟨hb5, hF5⟩ := (FiB.app ⟨bStep HF.out.bel (bAl (o := .cells #[.int .u64 (padW s i k : Int)] 22)), HF.out.hB, blk_step HF.out.b bAl, own_step HF.out.o bAl⟩ hgrow hown); have HF5 := Lib.hid hF5; have k1 := blk_cell (o := 1) hb5 rfl; have f1 := blk_free (o := 1) hb5; have kl := blk_lt hb5; clear hown hgrow hat hF5 hb5)
     exact ⟨⟨k + 1, by omega, by push_cast; rfl, _, HF5⟩, by simp [intOf]; omega⟩
    ·obtain rfl : k = 400 := by omega
     have HM : Hid (FiB w1 w1.heap.size s i 400 (.slice av 400 cv) wr) := HF.out
     have HWr : Hid (Below w1.heap.size w1 wr) := HF.out.bel
     obtain ⟨lst, hl1, hl2, hl3⟩ := HO.out.o
     rw [booksW_len] at hl2
     have HL1 := Lib.hid hl1
     have HL2 := Lib.hid (own_step hl2 HWr.out)
     have HL3 : Hid (∀ x ∈ lst, wr.ownsRow w.heap.size 22 1 x.2 x.1.2.length (padC x.1.2)) := fun x hx => own_step (hl3 x hx) HWr.out
     clear hl1 hl2 hl3 HF hd
     obtain ⟨i1, hi1, hy0, hy1, hy2⟩ := info_parts infoBk
     have q11 : IntKind.u64.wrap ((i : Int) + 1) = (i : Int) + 1 := Go.IntWalk.u64_in _ ⟨by omega, by omega⟩
     generalize hpt : ((bookW s i).1 : Int) = ptb at *
     go_wp2_with (at_builtin; refine wpList_app _ rfl (.tmp 43) (.tmp 45) 23 rfl w.heap.size 85 i1 _ 2 32 Tryz.underlying23 hi1 hy0 hy1 hy2 rfl (by decide) _ i (flatB lst) rfl (own_step HL2.out (bAl (o := .cells #[.int .u64 ptb, .slice av 400 cv] 85))) (some ⟨wr.heap.size, 0, none⟩) 1 1 [.int .u64 ptb, .slice av 400 cv] rfl rfl new_cells2 (bk_one _ _ _ _) (by unfold maxLen; omega) (by omega) (by have := HW.out.size; have := HWr.out.size; simp; omega) ?_; intro v' w5 hown hgrow hat; have HZ9 : Hid (BkO w.heap.size (booksW s (i + 1)) v' w5) := BkO.add HO.out HW.out (HM.out.step bAl) hgrow lst HL1.out (own_step HL2.out bAl) (fun x hx => own_step (HL3.out x hx) bAl) (by rw [hpt]; exact hown); have HB9 : Hid (Below w.heap.size w w5) := (bStep (bStep HW.out HWr.out) (bAl (o := .cells #[.int .u64 ptb, .slice av 400 cv] 85))).grown hgrow (by have := HW.out.size; have := HWr.out.size; simp; omega) (fun k hk => (World.ownsRow.lt HL2.out k hk).1); clear hown hgrow hat)
     exact ⟨⟨i + 1, by omega, by push_cast; rfl, HZ9, HB9⟩, by simp [intOf]; omega⟩
  ·obtain rfl : i = 3 := by omega
   clear hc
   obtain ⟨ab, cb, ev, hbt⟩ := HO.out.bk
   rw [booksW_len] at ev
   subst ev
   have CN := Lib.hid (New_ok (w := wr) 123456789 cb (BksT.at_ hbt) ⟨by rw [booksW_len]; decide, fun bk hbk => by obtain ⟨j, -, rfl⟩ := List.mem_map.1 hbk; show (padsW s j 400).length ≤ 1000000; rw [padsW_len]; decide⟩ (secW s hs))
   rw [booksW_len] at CN
   have HBT := Lib.hid hbt
   clear hbt
   go_wp2_with (go_at_call 24; refine CN.out.mono ?_; rintro e w2 ⟨R, vb, rfl, hv, hb⟩; have HV := Lib.hid hv; have HB2 := Lib.hid hb; clear hv hb)
   have hBT : BkT (.slice ab 3 cb) (booksW s 3) wr := ⟨ab, cb, by rw [booksW_len], HBT.out⟩
   have hB3 : Below wr.heap.size wr (w2.alloc (Obj.cells #[Value.pointer (some ⟨R, 0, none⟩), Value.slice ab 3 cb, Value.int IntKind.i64 0, Value.slice none 0 0, Value.slice none 0 0, Value.slice none 0 0, Value.slice none 0 0] 50)) := bStep HB2.out bAl
   exact bodyPost_ret (v := .tuple #[.pointer (some ⟨w2.heap.size, 0, none⟩), .bool true]) (by simp only [results, Tryz.results14]; go_simp) rfl ⟨_, R, vb, _, rfl, _, _, _, _, _, _, ⟨bStep HW.out hB3, Nat.le_trans HW.out.size HB2.out.size, (HV.out.step bAl).low HW.out.size, blk_new w2 _, hBT.step hB3, ⟨rfl, Or.inl ⟨rfl, rfl⟩⟩, ⟨rfl, Or.inl ⟨rfl, rfl⟩⟩, ⟨rfl, Or.inl ⟨rfl, rfl⟩⟩, ⟨rfl, Or.inl ⟨rfl, rfl⟩⟩, (fun k e => by cases e), (fun k e => by cases e), (fun k e => by cases e), (fun k e => by cases e), (fun k e => by cases e), (fun k e => by cases e)⟩⟩
end Go.Proofs.YtmpilgkfbibhlaaGreatDoor
