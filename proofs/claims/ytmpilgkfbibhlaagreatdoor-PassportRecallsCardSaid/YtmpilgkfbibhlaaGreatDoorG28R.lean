/-
 Registry: Entries, Where.
-/
import Derived.Test.YtmpilgkfbibhlaaGreatDoorG27R
import Derived.Test.YtmpilgkfbibhlaaGreatDoorG0R
import Derived.LaidEqlPtr
set_option linter.unusedSimpArgs false
set_option linter.unusedVariables false
namespace Go.Proofs.YtmpilgkfbibhlaaGreatDoor
open Sx Go.RowKit Mr
def laysSlE041_f58_ren : Go.Shelf.Ren := ⟨fun | 41 => 58 | n => n, fun | 22 => 24 | 23 => 31 | 4 => 4 | n => n, fun | n => n⟩
theorem laysSlE041_f58 : Go.Proofs.SlLaysE0.n41 Tryz.prog laysSlE041_f58_ren := {
 mixed := by kernel_rfl
 f41 := ⟨Tryz.f58.name, by decide, Tryz.func58.trans (congrArg some (by kernel_rfl))⟩
 t4 := Tryz.underlying4
 a4 := Tryz.isAgg4
 z4 := Tryz.sizeOf4
 v4 := Tryz.zeroValue4
 t22 := Tryz.underlying24
 a22 := Tryz.isAgg24
 z22 := Tryz.sizeOf24
 v22 := Tryz.zeroValue24 }
theorem row_cells {W : World} {B E sz n b c : Nat} {a : Option Addr} {xs : List Value} (h : W.ownsRow B E sz (.slice a n c) n xs) (hn : n ≠ 0) : ∃ b, a = some ⟨b, 0, none⟩ ∧ b < W.heap.size ∧ ∀ (j : Nat) (u : Value), xs[j]? = some u → W.cell? ⟨b, j, none⟩ = some u := by
 obtain ⟨-, h2⟩ := h
 rcases h2 with ⟨e1, e2⟩ | ⟨g, cap, cur, q1, q2, q3, q4, q5, q6, q7⟩
 ·exact absurd e2 hn
 ·injection q1 with e1 e2 e3
  subst e1
  refine ⟨g, rfl, blk_lt q3, fun j u hj => blk_cell q3 ?_⟩
  have hjl := (List.getElem?_eq_some_iff.1 hj).1
  rw [← q7] at hj
  rw [← Array.getElem?_toList]
  rw [List.getElem?_take] at hj
  split at hj
  ·exact hj
  ·cases hj
theorem own_low {W : World} {B B' E sz n : Nat} {v : Value} {xs : List Value} (h : W.ownsRow B' E sz v n xs) (hB : B ≤ B') : W.ownsRow B E sz v n xs := by
 obtain ⟨h1, h2⟩ := h
 refine ⟨h1, ?_⟩
 rcases h2 with h2 | ⟨g, cap, cur, q1, q2, q3⟩
 ·exact Or.inl h2
 ·exact Or.inr ⟨g, cap, cur, q1, Nat.le_trans hB q2, q3⟩
theorem entC_one' (es : List Ent) : ∀ u ∈ flatY es, u.oneCell' = true := by
 intro u hu
 unfold flatY at hu
 obtain ⟨y, -, hy⟩ := List.mem_flatMap.1 hu
 exact entC_one1 y u hy
theorem cloneE_any {v : Value} {es : List Ent} {w : World} {B : Nat} (h : w.ownsRow B 31 10 v es.length (flatY es)) (hl : es.length ≤ 1000) : Calls Tryz.prog 58 #[v] w fun e w' => ∃ v', e = .returned v' ∧ w'.ownsRow w.heap.size 31 10 v' es.length (flatY es) ∧ Below w.heap.size w w' := by
 obtain ⟨i0, hi, hz0, hz1, hz2⟩ := info_parts infoEnt
 obtain ⟨a, c, rfl⟩ := row_slice h
 by_cases hn : es.length = 0
 ·obtain ⟨-, h2⟩ := h
  have hnil : es = [] := List.length_eq_zero_iff.1 hn
  subst hnil
  rcases h2 with ⟨e1, -⟩ | ⟨g, cap, cur, q1, -⟩
  ·injection e1 with e2 e3 e4
   subst e2
   refine (AnyE.slices_Clone_nil laysSlE041_f58 0 c w).mono fun e w' q => ?_
   obtain ⟨rfl, rfl⟩ := q
   exact ⟨_, rfl, ⟨rfl, Or.inl ⟨rfl, rfl⟩⟩, Below.refl _ _⟩
  ·injection q1 with e1 e2 e3
   subst e1
   refine (AnyE.slices_Clone laysSlE041_f58 i0 _ 10 96 hi hz0 hz1 hz2 rfl (by decide) (fun w => Tryz.sizeOf31 w) g 0 0 c [] w rfl (Nat.zero_le _) (by omega) (fun j u hu => by cases hu) (fun u hu => by cases hu)).mono fun e w' q => ?_
   obtain ⟨v', rfl, q1, -, q2⟩ := q
   exact ⟨v', rfl, q1, q2⟩
 ·obtain ⟨b, rfl, -, hc⟩ := row_cells (b := 0) (c := c) h hn
  refine (AnyE.slices_Clone laysSlE041_f58 i0 _ 10 96 hi hz0 hz1 hz2 rfl (by decide) (fun w => Tryz.sizeOf31 w) b 0 es.length c (flatY es) w (flatY_len es) (by unfold maxLen; omega) (by omega) (fun j u hu => by rw [Nat.zero_add]; exact hc j u hu) (entC_one' es)).mono fun e w' q => ?_
  obtain ⟨v', rfl, q1, -, q2⟩ := q
  exact ⟨v', rfl, q1, q2⟩
set_option maxHeartbeats 4000000 in
set_option maxRecDepth 20000 in
theorem Entries_yes {B R : Nat} {a : RegA} {g : RegS} {vb vp : Value} {w : World} (h : RegV B R vb a g vp w) (ho : OkA a) (nm : ByteArray) (p : ByteArray × List Ent) (hp : a.ps[findA nm a]? = some p) : Calls Tryz.prog 16 #[.pointer (some ⟨R, 0, none⟩), .string nm] w fun en w' => ∃ v', en = .returned (.tuple #[v', .int .i64 0]) ∧ w'.ownsRow w.heap.size 31 10 v' p.2.length (flatY p.2) ∧ Below w.heap.size w w' := by
 have hok := h.ok ho.toOkB
 have hlen := h.len
 have hnp := ho.np
 have CV := Lib.hid (fun W (hW : Below w.heap.size w W) => valid_any (h.ra.step hW) hok.pt.1)
 have HB := Lib.hid (Below.refl w.heap.size w)
 have hf : findA nm a < a.ps.length := (List.getElem?_eq_some_iff.1 hp).1
 obtain ⟨PB, cp, cur, hvp, hPB, hbP, -⟩ := h.ra.packs (by rintro c; rw [c] at hlen; simp at hlen; omega)
 subst hvp
 have CF := Lib.hid (fun W (hW : Below w.heap.size w W) => find_any (h.ra.step hW) nm (by omega))
 rw [h.find, ptr_yes (by omega)] at CF
 obtain ⟨q, hq, e1, e2, e3, e4⟩ := h.get hp
 have hqm := List.mem_of_getElem? hq
 have hlv := h.ra.life rfl hq
 obtain ⟨pv, cv, hve⟩ := h.ra.veS hqm
 have hcv := hlv.2.2
 rw [hve, e2] at hcv
 have HCV := Lib.hid (And.intro hcv hlv.1.lt)
 have hes := h.ra.es q hqm
 rw [hve, e2] at hes
 have hpl := (ho.p p (List.mem_of_getElem? hp)).1
 have CC := Lib.hid (fun W (hW : Below w.heap.size w W) => cloneE_any (own_step hes hW) (by omega))
 generalize findA nm a = i at *
 clear h ho hok hlen hnp hf hp hq e1 e2 e3 e4 hqm hlv hve hcv hes hpl hPB hbP
 go_enter Tryz.func16, Tryz.ntmps16
 go_wp2_with (first | (go_at_call 56; refine (CV.out _ HB.out).mono ?_; rintro e w1 ⟨rfl, hbn⟩; have HB9 := Lib.hid (bStep HB.out hbn); clear HB hbn; have HB := HB9; clear HB9) | (go_at_call 57; refine (CF.out _ HB.out).mono ?_; rintro e w1 ⟨rfl, hbn⟩; have HB9 := Lib.hid (bStep HB.out hbn); clear HB hbn; have HB := HB9; clear HB9; have cv := cell_step HCV.out.1 HB.out; have lv := Nat.lt_of_lt_of_le HCV.out.2 HB.out.size) | (go_at_call 58; refine (CC.out _ HB.out).mono ?_; rintro e w1 ⟨v', rfl, hO, hbn⟩; have HO := Lib.hid (own_low hO HB.out.size); have HB9 := Lib.hid (bStep HB.out hbn); clear HB hbn hO; have HB := HB9; clear HB9; obtain ⟨av, cw, ev⟩ := row_slice HO.out; subst ev))
 exact bodyPost_ret (v := .tuple #[.slice av p.2.length cw, .int .i64 0]) (by simp only [results, Tryz.results16]; go_simp) rfl ⟨_, rfl, HO.out, HB.out⟩
end Go.Proofs.YtmpilgkfbibhlaaGreatDoor
namespace Go.Proofs.YtmpilgkfbibhlaaGreatDoor
open Sx Go.RowKit Mr
section
variable {a : RegA} {n i k : Nat} {e : Evt} {p : ByteArray × List Ent}
theorem putA_ne (h : k ≠ i) : (putA a n i e).ps[k]? = a.ps[k]? := by
 unfold putA
 cases a.ps[i]? with
 | none => rfl
 | some p => dsimp only; rw [List.getElem?_set_ne (fun c => h c.symm)]
theorem putA_eq (h : a.ps[i]? = some p) : (putA a n i e).ps[i]? = some (putP a n e p) := by
 rw [putA_at h]
 exact List.getElem?_set_self (List.getElem?_eq_some_iff.1 h).1
theorem putA_bks : (putA a n i e).bks = a.bks ∧ (putA a n i e).pt = a.pt := by
 unfold putA
 cases a.ps[i]? with
 | none => exact ⟨rfl, rfl⟩
 | some p => exact ⟨rfl, rfl⟩
theorem putA_used (h : a.ps[i]? = some p) : (putA a n i e).used = a.used.set n (a.used.getD n 0 + 1) := by rw [putA_at h]
theorem getD_set {l : List Nat} {n k v : Nat} : (l.set n v).getD k 0 = if n = k ∧ n < l.length then v else l.getD k 0 := by
 rw [List.getD_eq_getElem?_getD, List.getElem?_set]
 by_cases h : n = k
 ·subst h
  by_cases h2 : n < l.length
  ·simp [h2]
  ·simp [h2]
 ·simp [h, List.getD_eq_getElem?_getD]
theorem evs_snoc (es : List Ent) (y : Ent) : evsOf (es ++ [y]) = evsOf es ++ [y.1] := by unfold evsOf; rw [List.map_append]; rfl
theorem lf_put : lf (putP a n e p) = (lf p).add p.1 e := by
 show lifeOf p.1 (evsOf (p.2 ++ [_])) = _
 rw [evs_snoc, lifeOf_snoc]
 rfl
theorem OkB.put (ho : OkB a) (hp : a.ps[i]? = some p) (hok : okX e = true) (hcan : canP p.1 (lf p) e = true) (hl : p.2.length < 500) (hu : a.used.getD n 0 < (a.bks.getD n (0, [])).2.length) : OkB (putA a n i e) := by
 obtain ⟨q1, q2, q3, q4⟩ := ho.p p (List.mem_of_getElem? hp)
 rw [putA_at hp]
 refine ⟨ho.sec, by show (a.used.set _ _).length = 8; rw [List.length_set]; exact ho.u8, fun k => ?_, by show (a.ps.set _ _).length ≤ 100; rw [List.length_set]; exact ho.np, fun x hx => ?_⟩
 ·show (a.used.set _ _).getD k 0 ≤ _
  rw [getD_set]
  split
  ·rename_i c
   obtain ⟨rfl, -⟩ := c
   exact hu
  ·exact ho.us k
 ·rcases List.mem_or_eq_of_mem_set hx with hx | rfl
  ·exact ho.p x hx
  ·have hc2 : canR p.1 (evsOf p.2) e = true := by rw [← can_same q2]; exact hcan
   refine ⟨by show (p.2 ++ [_]).length ≤ 500; rw [List.length_append]; simp; omega, ?_, ?_, q4⟩
   ·show LegH p.1 (evsOf (p.2 ++ [_]))
    rw [evs_snoc]
    exact q2.snoc hc2
   ·show ∀ x ∈ evsOf (p.2 ++ [_]), okX x = true
    rw [evs_snoc]
    intro x hx
    rcases List.mem_append.1 hx with hx | hx
    ·exact q3 x hx
    ·obtain rfl := List.mem_singleton.1 hx
     exact hok
theorem moveA_1 {b t : Int} {m to : ByteArray} (hb : ¬ (0 ≤ b ∧ b < a.bks.length)) : moveA a b t m to = (3, a) := by unfold moveA; rw [if_pos hb]
theorem moveA_2 {b t : Int} {m to : ByteArray} (hb : 0 ≤ b ∧ b < a.bks.length) (h : ¬ (modB m = true ∧ nameB to = true ∧ timeB t = true)) : moveA a b t m to = (2, a) := by unfold moveA; rw [if_neg (fun c => c hb), if_pos h]
theorem moveA_3 {b t : Int} {m to : ByteArray} (hb : 0 ≤ b ∧ b < a.bks.length) (h : modB m = true ∧ nameB to = true ∧ timeB t = true) (hw : a.ps[whereA m a]? = none ∨ a.ps[findA to a]? = none) : moveA a b t m to = (5, a) := by
 unfold moveA; rw [if_neg (fun c => c hb), if_neg (fun c => c h)]
 rcases hw with hw | hw
 ·rw [hw]
 ·rw [hw]; cases a.ps[whereA m a]? <;> rfl
theorem moveA_4 {b t : Int} {m to : ByteArray} {p q : ByteArray × List Ent} (hb : 0 ≤ b ∧ b < a.bks.length) (h : modB m = true ∧ nameB to = true ∧ timeB t = true) (hp : a.ps[whereA m a]? = some p) (hq : a.ps[findA to a]? = some q) : moveA a b t m to =
  if whereA m a = findA to a ∨ canP p.1 (lf p) (takeE t m to) = false ∨ canP q.1 (lf q) (bringE t m p.1) = false then (10, a) else
  if 500 ≤ p.2.length ∨ 500 ≤ q.2.length then (11, a) else if leftA a b < 2 then (4, a) else
  (0, putA (putA a b.toNat (whereA m a) (takeE t m to)) b.toNat (findA to a) (bringE t m p.1)) := by
 unfold moveA; rw [if_neg (fun c => c hb), if_neg (fun c => c h), hp, hq]
theorem take_ok {t : Int} {m to : ByteArray} (h : modB m = true ∧ nameB to = true ∧ timeB t = true) : okX (takeE t m to) = true := by
 obtain ⟨h1, h2, h3⟩ := h
 have h4 := of_decide_eq_true h3
 have s1 := modB_size h1
 have s2 := (nameB_size h2).2
 show okE 6 t 0 0 m to = true
 unfold okE chkE chkB
 rw [h1, h2]
 simp [h4.1, h4.2]
 omega
theorem bring_ok {t : Int} {m nm : ByteArray} (h1 : modB m = true) (h2 : nameB nm = true) (h3 : timeB t = true) : okX (bringE t m nm) = true := by
 have h4 := of_decide_eq_true h3
 have s1 := modB_size h1
 have s2 := (nameB_size h2).2
 show okE 5 t 0 0 m nm = true
 unfold okE chkE chkB
 rw [h1, h2]
 simp [h4.1, h4.2]
 omega
end
set_option maxHeartbeats 1000000 in
theorem isTime_any (t : Int) (w : World) : Calls Tryz.prog 60 #[.int .i64 t] w fun en w' => en = .returned (.bool (timeB t)) ∧ Below w.heap.size w w' := by
 unfold timeB
 by_cases h0 : 0 ≤ t
 ·by_cases h1 : t ≤ 1099511627776
  ·rw [decide_eq_true ⟨h0, h1⟩]
   have h2 : t ≥ 0 := h0
   go_enter Tryz.func60, Tryz.ntmps60
   go_wp2_with fail
   exact bodyPost_ret (v := .bool true) (by simp only [results, Tryz.results60]; go_simp) rfl ⟨rfl, (by repeat' (first | exact Below.refl _ _ | assumption | apply bDrewN | apply bDrew | apply bAlloc | (refine bSet ?_ ?_ _) | (refine bStep ?_ (by assumption)) | omega | (simp <;> omega)))⟩
  ·rw [decide_eq_false (fun c => h1 c.2)]
   have h2 : t ≥ 0 := h0
   go_enter Tryz.func60, Tryz.ntmps60
   go_wp2_with fail
   exact bodyPost_ret (v := .bool false) (by simp only [results, Tryz.results60]; go_simp) rfl ⟨rfl, (by repeat' (first | exact Below.refl _ _ | assumption | apply bDrewN | apply bDrew | apply bAlloc | (refine bSet ?_ ?_ _) | (refine bStep ?_ (by assumption)) | omega | (simp <;> omega)))⟩
 ·rw [decide_eq_false (fun c => h0 c.1)]
  have h2 : t < 0 := by omega
  go_enter Tryz.func60, Tryz.ntmps60
  go_wp2_with fail
  exact bodyPost_ret (v := .bool false) (by simp only [results, Tryz.results60]; go_simp) rfl ⟨rfl, (by repeat' (first | exact Below.refl _ _ | assumption | apply bDrewN | apply bDrew | apply bAlloc | (refine bSet ?_ ?_ _) | (refine bStep ?_ (by assumption)) | omega | (simp <;> omega)))⟩
end Go.Proofs.YtmpilgkfbibhlaaGreatDoor
namespace Go.Proofs.YtmpilgkfbibhlaaGreatDoor
open Sx Go.RowKit Mr
theorem ptr_same (w : World) (A : Addr) : (binOp .eql 112 (.pointer (some A)) (.pointer (some A))).run Tryz.prog w = .ok (.bool true) w := by
 obtain ⟨i0, hi, -, -, -⟩ := info_parts infoPk
 exact run_eql_ptr_same w A Tryz.underlying112 hi
theorem ptr_other {w : World} {PB i k : Nat} {cs : Array Value} (h : w.heap[PB]? = some (.cells cs 116 (0, 0))) (hne : i ≠ k) : (binOp .eql 112 (.pointer (some ⟨PB, i * 20, none⟩)) (.pointer (some ⟨PB, k * 20, none⟩))).run Tryz.prog w = .ok (.bool false) w := by
 obtain ⟨i0, hi, -, hz, -⟩ := info_parts infoPk
 have h20 : i0.size ≠ 0 := by rw [hz]; exact Nat.succ_ne_zero 19
 have hn2 : (⟨PB, i * 20, none⟩ : Addr) ≠ ⟨PB, k * 20, none⟩ := fun e => hne (by have h9 : i * 20 = k * 20 := congrArg Addr.off e; omega)
 exact run_eql_ptr_other w Tryz.underlying112 hi h20 hn2 h h
set_option maxHeartbeats 4000000 in
set_option maxRecDepth 20000 in
theorem Move_1 {B R : Nat} {a : RegA} {g : RegS} {vb vp : Value} {w : World} (h : RegV B R vb a g vp w) (ho : OkA a) (hG : Glob0 w) (b t : Int) (m to : ByteArray) (hs : m.size ≤ 1000000 ∧ to.size ≤ 1000000) (hb : ¬ (0 ≤ b ∧ b < a.bks.length)) :
  Calls Tryz.prog 55 #[.pointer (some ⟨R, 0, none⟩), .int .i64 b, .int .i64 t, .string m, .string to] w fun en w' => en = .returned (.int .i64 (moveA a b t m to).1) ∧ RegN B R vb (moveA a b t m to).2 g vp w w' := by
 rw [show moveA a b t m to = (3, a) from moveA_1 hb]
 dsimp only
 have hok := h.ok ho.toOkB
 have hbks : g.bks = a.bks := by rw [← h.abs]; rfl
 have hlen := h.len
 have hnp := ho.np
 have hla : leftR g b = leftA a b := by rw [left_abs, h.abs]
 have H := Lib.hid h
 obtain ⟨pa, cp, hvp⟩ := h.ra.vpS
 subst hvp
 have hms : ∀ q ∈ g.qs, q.life.ms.length ≤ 1000000 := fun q hq => by
  obtain ⟨i, hi⟩ := List.getElem?_of_mem hq
  have h9 := (ho.toOkB.life (List.mem_of_getElem? (h.put hi))).2.1
  rw [(h.lf q hq).1]
  exact Nat.le_trans h9 (by omega)
 have CV := Lib.hid (fun W (hW : Below w.heap.size w W) => valid_any (h.ra.step hW) hok.pt.1)
 have CB := Lib.hid (fun W (hW : Below w.heap.size w W) => book_any (h.ra.step hW) b)
 have CN := Lib.hid (fun W => isName_any to W (by omega))
 have CM := Lib.hid (fun W (hW : Below w.heap.size w W) => isModule_any m W hs.1 (gstep hG hW))
 have CT := Lib.hid (fun W => isTime_any t W)
 have CW := Lib.hid (fun W (hW : Below w.heap.size w W) => where_any (h.ra.step hW) m (by omega) hms)
 have CF := Lib.hid (fun W (hW : Below w.heap.size w W) => find_any (h.ra.step hW) to (by omega))
 have CL := Lib.hid (fun W (hW : Below w.heap.size w W) => Left_any (h.ra.step hW) hok b)
 rw [hbks] at CB
 rw [hla] at CL
 rw [h.find] at CF
 rw [h.whr] at CW
 have HG := Lib.hid hG
 have HO := Lib.hid ho
 have HLN := Lib.hid hlen
 have HS := Lib.hid hs
 have HB := Lib.hid (Below.refl w.heap.size w)
 generalize (cutS m).1 = o1 at *
 clear hok hbks hnp hla hG hs hlen hms
 rw [decide_eq_false hb] at CB
 clear hb
 clear h ho
 go_enter Tryz.func55, Tryz.ntmps55
 go_wp2_with ((first | (go_at_call 56; refine (CV.out _ HB.out).mono ?_) | (go_at_call 59; refine (CB.out _ HB.out).mono ?_) | (go_at_call 39; refine (CN.out _).mono ?_) | (go_at_call 67; refine (CM.out _ HB.out).mono ?_) | (go_at_call 60; refine (CT.out _).mono ?_) | (go_at_call 68; refine (CW.out _ HB.out).mono ?_) | (go_at_call 57; refine (CF.out _ HB.out).mono ?_) | (go_at_call 17; refine (CL.out _ HB.out).mono ?_)); rintro e w1 ⟨rfl, hbn⟩; have HB9 := Lib.hid (bStep HB.out hbn); clear HB hbn; have HB := HB9; clear HB9)
 exact bodyPost_ret (v := .int .i64 3) (by simp only [results, Tryz.results55]; go_simp) rfl ⟨rfl, H.out.stay HB.out⟩
set_option maxHeartbeats 4000000 in
set_option maxRecDepth 20000 in
theorem Move_20 {B R : Nat} {a : RegA} {g : RegS} {vb vp : Value} {w : World} (h : RegV B R vb a g vp w) (ho : OkA a) (hG : Glob0 w) (b t : Int) (m to : ByteArray) (hs : m.size ≤ 1000000 ∧ to.size ≤ 1000000) (hb : 0 ≤ b ∧ b < a.bks.length) (h2 : modB m = false) :
  Calls Tryz.prog 55 #[.pointer (some ⟨R, 0, none⟩), .int .i64 b, .int .i64 t, .string m, .string to] w fun en w' => en = .returned (.int .i64 (moveA a b t m to).1) ∧ RegN B R vb (moveA a b t m to).2 g vp w w' := by
 rw [show moveA a b t m to = (2, a) from moveA_2 hb (by simp [h2])]
 dsimp only
 have hok := h.ok ho.toOkB
 have hbks : g.bks = a.bks := by rw [← h.abs]; rfl
 have hlen := h.len
 have hnp := ho.np
 have hla : leftR g b = leftA a b := by rw [left_abs, h.abs]
 have H := Lib.hid h
 obtain ⟨pa, cp, hvp⟩ := h.ra.vpS
 subst hvp
 have hms : ∀ q ∈ g.qs, q.life.ms.length ≤ 1000000 := fun q hq => by
  obtain ⟨i, hi⟩ := List.getElem?_of_mem hq
  have h9 := (ho.toOkB.life (List.mem_of_getElem? (h.put hi))).2.1
  rw [(h.lf q hq).1]
  exact Nat.le_trans h9 (by omega)
 have CV := Lib.hid (fun W (hW : Below w.heap.size w W) => valid_any (h.ra.step hW) hok.pt.1)
 have CB := Lib.hid (fun W (hW : Below w.heap.size w W) => book_any (h.ra.step hW) b)
 have CN := Lib.hid (fun W => isName_any to W (by omega))
 have CM := Lib.hid (fun W (hW : Below w.heap.size w W) => isModule_any m W hs.1 (gstep hG hW))
 have CT := Lib.hid (fun W => isTime_any t W)
 have CW := Lib.hid (fun W (hW : Below w.heap.size w W) => where_any (h.ra.step hW) m (by omega) hms)
 have CF := Lib.hid (fun W (hW : Below w.heap.size w W) => find_any (h.ra.step hW) to (by omega))
 have CL := Lib.hid (fun W (hW : Below w.heap.size w W) => Left_any (h.ra.step hW) hok b)
 rw [hbks] at CB
 rw [hla] at CL
 rw [h.find] at CF
 rw [h.whr] at CW
 have HG := Lib.hid hG
 have HO := Lib.hid ho
 have HLN := Lib.hid hlen
 have HS := Lib.hid hs
 have HB := Lib.hid (Below.refl w.heap.size w)
 generalize (cutS m).1 = o1 at *
 clear hok hbks hnp hla hG hs hlen hms
 rw [decide_eq_true hb] at CB
 rw [h2] at CM
 clear hb h2
 clear h ho
 go_enter Tryz.func55, Tryz.ntmps55
 go_wp2_with ((first | (go_at_call 56; refine (CV.out _ HB.out).mono ?_) | (go_at_call 59; refine (CB.out _ HB.out).mono ?_) | (go_at_call 39; refine (CN.out _).mono ?_) | (go_at_call 67; refine (CM.out _ HB.out).mono ?_) | (go_at_call 60; refine (CT.out _).mono ?_) | (go_at_call 68; refine (CW.out _ HB.out).mono ?_) | (go_at_call 57; refine (CF.out _ HB.out).mono ?_) | (go_at_call 17; refine (CL.out _ HB.out).mono ?_)); rintro e w1 ⟨rfl, hbn⟩; have HB9 := Lib.hid (bStep HB.out hbn); clear HB hbn; have HB := HB9; clear HB9)
 exact bodyPost_ret (v := .int .i64 2) (by simp only [results, Tryz.results55]; go_simp) rfl ⟨rfl, H.out.stay HB.out⟩
set_option maxHeartbeats 4000000 in
set_option maxRecDepth 20000 in
theorem Move_21 {B R : Nat} {a : RegA} {g : RegS} {vb vp : Value} {w : World} (h : RegV B R vb a g vp w) (ho : OkA a) (hG : Glob0 w) (b t : Int) (m to : ByteArray) (hs : m.size ≤ 1000000 ∧ to.size ≤ 1000000) (hb : 0 ≤ b ∧ b < a.bks.length) (h2 : modB m = true) (h3 : nameB to = false) :
  Calls Tryz.prog 55 #[.pointer (some ⟨R, 0, none⟩), .int .i64 b, .int .i64 t, .string m, .string to] w fun en w' => en = .returned (.int .i64 (moveA a b t m to).1) ∧ RegN B R vb (moveA a b t m to).2 g vp w w' := by
 rw [show moveA a b t m to = (2, a) from moveA_2 hb (by simp [h3])]
 dsimp only
 have hok := h.ok ho.toOkB
 have hbks : g.bks = a.bks := by rw [← h.abs]; rfl
 have hlen := h.len
 have hnp := ho.np
 have hla : leftR g b = leftA a b := by rw [left_abs, h.abs]
 have H := Lib.hid h
 obtain ⟨pa, cp, hvp⟩ := h.ra.vpS
 subst hvp
 have hms : ∀ q ∈ g.qs, q.life.ms.length ≤ 1000000 := fun q hq => by
  obtain ⟨i, hi⟩ := List.getElem?_of_mem hq
  have h9 := (ho.toOkB.life (List.mem_of_getElem? (h.put hi))).2.1
  rw [(h.lf q hq).1]
  exact Nat.le_trans h9 (by omega)
 have CV := Lib.hid (fun W (hW : Below w.heap.size w W) => valid_any (h.ra.step hW) hok.pt.1)
 have CB := Lib.hid (fun W (hW : Below w.heap.size w W) => book_any (h.ra.step hW) b)
 have CN := Lib.hid (fun W => isName_any to W (by omega))
 have CM := Lib.hid (fun W (hW : Below w.heap.size w W) => isModule_any m W hs.1 (gstep hG hW))
 have CT := Lib.hid (fun W => isTime_any t W)
 have CW := Lib.hid (fun W (hW : Below w.heap.size w W) => where_any (h.ra.step hW) m (by omega) hms)
 have CF := Lib.hid (fun W (hW : Below w.heap.size w W) => find_any (h.ra.step hW) to (by omega))
 have CL := Lib.hid (fun W (hW : Below w.heap.size w W) => Left_any (h.ra.step hW) hok b)
 rw [hbks] at CB
 rw [hla] at CL
 rw [h.find] at CF
 rw [h.whr] at CW
 have HG := Lib.hid hG
 have HO := Lib.hid ho
 have HLN := Lib.hid hlen
 have HS := Lib.hid hs
 have HB := Lib.hid (Below.refl w.heap.size w)
 generalize (cutS m).1 = o1 at *
 clear hok hbks hnp hla hG hs hlen hms
 rw [decide_eq_true hb] at CB
 rw [h2] at CM
 rw [h3] at CN
 clear hb h2 h3
 clear h ho
 go_enter Tryz.func55, Tryz.ntmps55
 go_wp2_with ((first | (go_at_call 56; refine (CV.out _ HB.out).mono ?_) | (go_at_call 59; refine (CB.out _ HB.out).mono ?_) | (go_at_call 39; refine (CN.out _).mono ?_) | (go_at_call 67; refine (CM.out _ HB.out).mono ?_) | (go_at_call 60; refine (CT.out _).mono ?_) | (go_at_call 68; refine (CW.out _ HB.out).mono ?_) | (go_at_call 57; refine (CF.out _ HB.out).mono ?_) | (go_at_call 17; refine (CL.out _ HB.out).mono ?_)); rintro e w1 ⟨rfl, hbn⟩; have HB9 := Lib.hid (bStep HB.out hbn); clear HB hbn; have HB := HB9; clear HB9)
 exact bodyPost_ret (v := .int .i64 2) (by simp only [results, Tryz.results55]; go_simp) rfl ⟨rfl, H.out.stay HB.out⟩
set_option maxHeartbeats 4000000 in
set_option maxRecDepth 20000 in
theorem Move_22 {B R : Nat} {a : RegA} {g : RegS} {vb vp : Value} {w : World} (h : RegV B R vb a g vp w) (ho : OkA a) (hG : Glob0 w) (b t : Int) (m to : ByteArray) (hs : m.size ≤ 1000000 ∧ to.size ≤ 1000000) (hb : 0 ≤ b ∧ b < a.bks.length) (h2 : modB m = true) (h3 : nameB to = true) (h4 : timeB t = false) :
  Calls Tryz.prog 55 #[.pointer (some ⟨R, 0, none⟩), .int .i64 b, .int .i64 t, .string m, .string to] w fun en w' => en = .returned (.int .i64 (moveA a b t m to).1) ∧ RegN B R vb (moveA a b t m to).2 g vp w w' := by
 rw [show moveA a b t m to = (2, a) from moveA_2 hb (by simp [h4])]
 dsimp only
 have hok := h.ok ho.toOkB
 have hbks : g.bks = a.bks := by rw [← h.abs]; rfl
 have hlen := h.len
 have hnp := ho.np
 have hla : leftR g b = leftA a b := by rw [left_abs, h.abs]
 have H := Lib.hid h
 obtain ⟨pa, cp, hvp⟩ := h.ra.vpS
 subst hvp
 have hms : ∀ q ∈ g.qs, q.life.ms.length ≤ 1000000 := fun q hq => by
  obtain ⟨i, hi⟩ := List.getElem?_of_mem hq
  have h9 := (ho.toOkB.life (List.mem_of_getElem? (h.put hi))).2.1
  rw [(h.lf q hq).1]
  exact Nat.le_trans h9 (by omega)
 have CV := Lib.hid (fun W (hW : Below w.heap.size w W) => valid_any (h.ra.step hW) hok.pt.1)
 have CB := Lib.hid (fun W (hW : Below w.heap.size w W) => book_any (h.ra.step hW) b)
 have CN := Lib.hid (fun W => isName_any to W (by omega))
 have CM := Lib.hid (fun W (hW : Below w.heap.size w W) => isModule_any m W hs.1 (gstep hG hW))
 have CT := Lib.hid (fun W => isTime_any t W)
 have CW := Lib.hid (fun W (hW : Below w.heap.size w W) => where_any (h.ra.step hW) m (by omega) hms)
 have CF := Lib.hid (fun W (hW : Below w.heap.size w W) => find_any (h.ra.step hW) to (by omega))
 have CL := Lib.hid (fun W (hW : Below w.heap.size w W) => Left_any (h.ra.step hW) hok b)
 rw [hbks] at CB
 rw [hla] at CL
 rw [h.find] at CF
 rw [h.whr] at CW
 have HG := Lib.hid hG
 have HO := Lib.hid ho
 have HLN := Lib.hid hlen
 have HS := Lib.hid hs
 have HB := Lib.hid (Below.refl w.heap.size w)
 generalize (cutS m).1 = o1 at *
 clear hok hbks hnp hla hG hs hlen hms
 rw [decide_eq_true hb] at CB
 rw [h2] at CM
 rw [h3] at CN
 rw [h4] at CT
 clear hb h2 h3 h4
 clear h ho
 go_enter Tryz.func55, Tryz.ntmps55
 go_wp2_with ((first | (go_at_call 56; refine (CV.out _ HB.out).mono ?_) | (go_at_call 59; refine (CB.out _ HB.out).mono ?_) | (go_at_call 39; refine (CN.out _).mono ?_) | (go_at_call 67; refine (CM.out _ HB.out).mono ?_) | (go_at_call 60; refine (CT.out _).mono ?_) | (go_at_call 68; refine (CW.out _ HB.out).mono ?_) | (go_at_call 57; refine (CF.out _ HB.out).mono ?_) | (go_at_call 17; refine (CL.out _ HB.out).mono ?_)); rintro e w1 ⟨rfl, hbn⟩; have HB9 := Lib.hid (bStep HB.out hbn); clear HB hbn; have HB := HB9; clear HB9)
 exact bodyPost_ret (v := .int .i64 2) (by simp only [results, Tryz.results55]; go_simp) rfl ⟨rfl, H.out.stay HB.out⟩
set_option maxHeartbeats 4000000 in
set_option maxRecDepth 20000 in
theorem Move_31 {B R : Nat} {a : RegA} {g : RegS} {vb vp : Value} {w : World} (h : RegV B R vb a g vp w) (ho : OkA a) (hG : Glob0 w) (b t : Int) (m to : ByteArray) (hs : m.size ≤ 1000000 ∧ to.size ≤ 1000000) (hb : 0 ≤ b ∧ b < a.bks.length) (hv : modB m = true ∧ nameB to = true ∧ timeB t = true) (h4 : ¬ whereA m a < a.ps.length) :
  Calls Tryz.prog 55 #[.pointer (some ⟨R, 0, none⟩), .int .i64 b, .int .i64 t, .string m, .string to] w fun en w' => en = .returned (.int .i64 (moveA a b t m to).1) ∧ RegN B R vb (moveA a b t m to).2 g vp w w' := by
 rw [show moveA a b t m to = (5, a) from moveA_3 hb hv (Or.inl (List.getElem?_eq_none (by omega)))]
 dsimp only
 have hok := h.ok ho.toOkB
 have hbks : g.bks = a.bks := by rw [← h.abs]; rfl
 have hlen := h.len
 have hnp := ho.np
 have hla : leftR g b = leftA a b := by rw [left_abs, h.abs]
 have H := Lib.hid h
 obtain ⟨pa, cp, hvp⟩ := h.ra.vpS
 subst hvp
 have hms : ∀ q ∈ g.qs, q.life.ms.length ≤ 1000000 := fun q hq => by
  obtain ⟨i, hi⟩ := List.getElem?_of_mem hq
  have h9 := (ho.toOkB.life (List.mem_of_getElem? (h.put hi))).2.1
  rw [(h.lf q hq).1]
  exact Nat.le_trans h9 (by omega)
 have CV := Lib.hid (fun W (hW : Below w.heap.size w W) => valid_any (h.ra.step hW) hok.pt.1)
 have CB := Lib.hid (fun W (hW : Below w.heap.size w W) => book_any (h.ra.step hW) b)
 have CN := Lib.hid (fun W => isName_any to W (by omega))
 have CM := Lib.hid (fun W (hW : Below w.heap.size w W) => isModule_any m W hs.1 (gstep hG hW))
 have CT := Lib.hid (fun W => isTime_any t W)
 have CW := Lib.hid (fun W (hW : Below w.heap.size w W) => where_any (h.ra.step hW) m (by omega) hms)
 have CF := Lib.hid (fun W (hW : Below w.heap.size w W) => find_any (h.ra.step hW) to (by omega))
 have CL := Lib.hid (fun W (hW : Below w.heap.size w W) => Left_any (h.ra.step hW) hok b)
 rw [hbks] at CB
 rw [hla] at CL
 rw [h.find] at CF
 rw [h.whr] at CW
 have HG := Lib.hid hG
 have HO := Lib.hid ho
 have HLN := Lib.hid hlen
 have HS := Lib.hid hs
 have HB := Lib.hid (Below.refl w.heap.size w)
 generalize (cutS m).1 = o1 at *
 clear hok hbks hnp hla hG hs hlen hms
 rw [decide_eq_true hb] at CB
 rw [hv.1] at CM
 rw [hv.2.1] at CN
 rw [hv.2.2] at CT
 rw [ptr_no (by have := HLN.out; omega)] at CW
 generalize hpk : ptrK (.slice pa g.qs.length cp) g.qs.length (findA to a) = P9 at CF
 clear hpk
 generalize whereA m a = i at *
 generalize findA to a = k at *
 clear hb hv h4
 clear h ho
 go_enter Tryz.func55, Tryz.ntmps55
 go_wp2_with ((first | (go_at_call 56; refine (CV.out _ HB.out).mono ?_) | (go_at_call 59; refine (CB.out _ HB.out).mono ?_) | (go_at_call 39; refine (CN.out _).mono ?_) | (go_at_call 67; refine (CM.out _ HB.out).mono ?_) | (go_at_call 60; refine (CT.out _).mono ?_) | (go_at_call 68; refine (CW.out _ HB.out).mono ?_) | (go_at_call 57; refine (CF.out _ HB.out).mono ?_) | (go_at_call 17; refine (CL.out _ HB.out).mono ?_)); rintro e w1 ⟨rfl, hbn⟩; have HB9 := Lib.hid (bStep HB.out hbn); clear HB hbn; have HB := HB9; clear HB9)
 exact bodyPost_ret (v := .int .i64 5) (by simp only [results, Tryz.results55]; go_simp) rfl ⟨rfl, H.out.stay HB.out⟩
set_option maxHeartbeats 4000000 in
set_option maxRecDepth 20000 in
theorem Move_32 {B R : Nat} {a : RegA} {g : RegS} {vb vp : Value} {w : World} (h : RegV B R vb a g vp w) (ho : OkA a) (hG : Glob0 w) (b t : Int) (m to : ByteArray) (hs : m.size ≤ 1000000 ∧ to.size ≤ 1000000) (hb : 0 ≤ b ∧ b < a.bks.length) (hv : modB m = true ∧ nameB to = true ∧ timeB t = true) (h4 : whereA m a < a.ps.length) (h5 : ¬ findA to a < a.ps.length) :
  Calls Tryz.prog 55 #[.pointer (some ⟨R, 0, none⟩), .int .i64 b, .int .i64 t, .string m, .string to] w fun en w' => en = .returned (.int .i64 (moveA a b t m to).1) ∧ RegN B R vb (moveA a b t m to).2 g vp w w' := by
 rw [show moveA a b t m to = (5, a) from moveA_3 hb hv (Or.inr (List.getElem?_eq_none (by omega)))]
 dsimp only
 have hok := h.ok ho.toOkB
 have hbks : g.bks = a.bks := by rw [← h.abs]; rfl
 have hlen := h.len
 have hnp := ho.np
 have hla : leftR g b = leftA a b := by rw [left_abs, h.abs]
 have H := Lib.hid h
 obtain ⟨pa, cp, hvp⟩ := h.ra.vpS
 subst hvp
 have hms : ∀ q ∈ g.qs, q.life.ms.length ≤ 1000000 := fun q hq => by
  obtain ⟨i, hi⟩ := List.getElem?_of_mem hq
  have h9 := (ho.toOkB.life (List.mem_of_getElem? (h.put hi))).2.1
  rw [(h.lf q hq).1]
  exact Nat.le_trans h9 (by omega)
 have CV := Lib.hid (fun W (hW : Below w.heap.size w W) => valid_any (h.ra.step hW) hok.pt.1)
 have CB := Lib.hid (fun W (hW : Below w.heap.size w W) => book_any (h.ra.step hW) b)
 have CN := Lib.hid (fun W => isName_any to W (by omega))
 have CM := Lib.hid (fun W (hW : Below w.heap.size w W) => isModule_any m W hs.1 (gstep hG hW))
 have CT := Lib.hid (fun W => isTime_any t W)
 have CW := Lib.hid (fun W (hW : Below w.heap.size w W) => where_any (h.ra.step hW) m (by omega) hms)
 have CF := Lib.hid (fun W (hW : Below w.heap.size w W) => find_any (h.ra.step hW) to (by omega))
 have CL := Lib.hid (fun W (hW : Below w.heap.size w W) => Left_any (h.ra.step hW) hok b)
 rw [hbks] at CB
 rw [hla] at CL
 rw [h.find] at CF
 rw [h.whr] at CW
 have HG := Lib.hid hG
 have HO := Lib.hid ho
 have HLN := Lib.hid hlen
 have HS := Lib.hid hs
 have HB := Lib.hid (Below.refl w.heap.size w)
 generalize (cutS m).1 = o1 at *
 clear hok hbks hnp hla hG hs hlen hms
 rw [decide_eq_true hb] at CB
 rw [hv.1] at CM
 rw [hv.2.1] at CN
 rw [hv.2.2] at CT
 obtain ⟨PB, cp2, cur, evp, hPB, hbP, -⟩ := h.ra.packs (by rintro c; have h9 := HLN.out; rw [c] at h9; simp at h9; omega)
 cases evp
 rw [ptr_yes (by have := HLN.out; omega)] at CW
 rw [ptr_no (by have := HLN.out; omega)] at CF
 generalize whereA m a = i at *
 generalize findA to a = k at *
 clear hb hv h4 h5 hbP hPB
 clear h ho
 go_enter Tryz.func55, Tryz.ntmps55
 go_wp2_with ((first | (go_at_call 56; refine (CV.out _ HB.out).mono ?_) | (go_at_call 59; refine (CB.out _ HB.out).mono ?_) | (go_at_call 39; refine (CN.out _).mono ?_) | (go_at_call 67; refine (CM.out _ HB.out).mono ?_) | (go_at_call 60; refine (CT.out _).mono ?_) | (go_at_call 68; refine (CW.out _ HB.out).mono ?_) | (go_at_call 57; refine (CF.out _ HB.out).mono ?_) | (go_at_call 17; refine (CL.out _ HB.out).mono ?_)); rintro e w1 ⟨rfl, hbn⟩; have HB9 := Lib.hid (bStep HB.out hbn); clear HB hbn; have HB := HB9; clear HB9)
 exact bodyPost_ret (v := .int .i64 5) (by simp only [results, Tryz.results55]; go_simp) rfl ⟨rfl, H.out.stay HB.out⟩
set_option maxHeartbeats 4000000 in
set_option maxRecDepth 20000 in
theorem Move_5 {B R : Nat} {a : RegA} {g : RegS} {vb vp : Value} {w : World} (h : RegV B R vb a g vp w) (ho : OkA a) (hG : Glob0 w) (b t : Int) (m to : ByteArray) (hs : m.size ≤ 1000000 ∧ to.size ≤ 1000000) (hb : 0 ≤ b ∧ b < a.bks.length) (hv : modB m = true ∧ nameB to = true ∧ timeB t = true) (p q : ByteArray × List Ent) (hp : a.ps[whereA m a]? = some p) (hq : a.ps[findA to a]? = some q) (h6 : whereA m a = findA to a) :
  Calls Tryz.prog 55 #[.pointer (some ⟨R, 0, none⟩), .int .i64 b, .int .i64 t, .string m, .string to] w fun en w' => en = .returned (.int .i64 (moveA a b t m to).1) ∧ RegN B R vb (moveA a b t m to).2 g vp w w' := by
 rw [show moveA a b t m to = (10, a) from by rw [moveA_4 hb hv hp hq, if_pos (Or.inl h6)]]
 dsimp only
 have hok := h.ok ho.toOkB
 have hbks : g.bks = a.bks := by rw [← h.abs]; rfl
 have hlen := h.len
 have hnp := ho.np
 have hla : leftR g b = leftA a b := by rw [left_abs, h.abs]
 have H := Lib.hid h
 obtain ⟨pa, cp, hvp⟩ := h.ra.vpS
 subst hvp
 have hms : ∀ q ∈ g.qs, q.life.ms.length ≤ 1000000 := fun q hq => by
  obtain ⟨i, hi⟩ := List.getElem?_of_mem hq
  have h9 := (ho.toOkB.life (List.mem_of_getElem? (h.put hi))).2.1
  rw [(h.lf q hq).1]
  exact Nat.le_trans h9 (by omega)
 have CV := Lib.hid (fun W (hW : Below w.heap.size w W) => valid_any (h.ra.step hW) hok.pt.1)
 have CB := Lib.hid (fun W (hW : Below w.heap.size w W) => book_any (h.ra.step hW) b)
 have CN := Lib.hid (fun W => isName_any to W (by omega))
 have CM := Lib.hid (fun W (hW : Below w.heap.size w W) => isModule_any m W hs.1 (gstep hG hW))
 have CT := Lib.hid (fun W => isTime_any t W)
 have CW := Lib.hid (fun W (hW : Below w.heap.size w W) => where_any (h.ra.step hW) m (by omega) hms)
 have CF := Lib.hid (fun W (hW : Below w.heap.size w W) => find_any (h.ra.step hW) to (by omega))
 have CL := Lib.hid (fun W (hW : Below w.heap.size w W) => Left_any (h.ra.step hW) hok b)
 rw [hbks] at CB
 rw [hla] at CL
 rw [h.find] at CF
 rw [h.whr] at CW
 have HG := Lib.hid hG
 have HO := Lib.hid ho
 have HLN := Lib.hid hlen
 have HS := Lib.hid hs
 have HB := Lib.hid (Below.refl w.heap.size w)
 generalize (cutS m).1 = o1 at *
 clear hok hbks hnp hla hG hs hlen hms
 rw [decide_eq_true hb] at CB
 rw [hv.1] at CM
 rw [hv.2.1] at CN
 rw [hv.2.2] at CT
 have h4 : whereA m a < a.ps.length := (List.getElem?_eq_some_iff.1 hp).1
 have h5 : findA to a < a.ps.length := (List.getElem?_eq_some_iff.1 hq).1
 obtain ⟨PB, cp2, cur, evp, hPB, hbP, -⟩ := h.ra.packs (by rintro c; have h9 := HLN.out; rw [c] at h9; simp at h9; omega)
 cases evp
 rw [ptr_yes (by have := HLN.out; omega)] at CW
 rw [ptr_yes (by have := HLN.out; omega)] at CF
 obtain ⟨x, hx, e1, e2, e3, e4⟩ := h.get hp
 obtain ⟨y, hy, f1, f2, f3, f4⟩ := h.get hq
 obtain ⟨pv, cv, hve⟩ := h.ra.veS (List.mem_of_getElem? hx)
 obtain ⟨pz, cz, hvz⟩ := h.ra.veS (List.mem_of_getElem? hy)
 have hlx := h.ra.life rfl hx
 have hly := h.ra.life rfl hy
 have hcx := hlx.2.2
 rw [hve, e2] at hcx
 have hcy := hly.2.2
 rw [hvz, f2] at hcy
 have hcn := hlx.1.open1.1
 rw [e1] at hcn
 have HCV := Lib.hid (And.intro hcx (And.intro hcy (And.intro hcn hlx.1.lt)))
 have hbx := HO.out.toOkB.life (List.mem_of_getElem? hp)
 have hby := HO.out.toOkB.life (List.mem_of_getElem? hq)
 have CC : ∀ W, Below w.heap.size w W → ∀ s : WStep W, Calls Tryz.prog 43 #[.pointer (some ⟨PB, whereA m a * 20, none⟩), (.agg #[.int .i64 6, .int .i64 t, .int .i64 0, .int .i64 0, .string m, .string to])] s.1 fun e w' => e = .returned (.bool (canP p.1 (lf p) (takeE t m to))) ∧ ∃ t : WStep W, w' = t.1 := fun W hW s => by
  have h9 := step_call s (can_any ((hlx.1.step hW).step s.2) (takeE t m to) ⟨show (1 : Int) ≤ 6 by decide, show (6 : Int) ≤ 9 by decide⟩ (by rw [e3]; have := hbx.2.1; omega) (by rw [e3]; have := hbx.2.2; omega))
  rw [e1, e3] at h9
  exact h9
 have CD : ∀ W, Below w.heap.size w W → ∀ s : WStep W, Calls Tryz.prog 43 #[.pointer (some ⟨PB, findA to a * 20, none⟩), (.agg #[.int .i64 5, .int .i64 t, .int .i64 0, .int .i64 0, .string m, .string p.1])] s.1 fun e w' => e = .returned (.bool (canP q.1 (lf q) (bringE t m p.1))) ∧ ∃ t : WStep W, w' = t.1 := fun W hW s => by
  have h9 := step_call s (can_any ((hly.1.step hW).step s.2) (bringE t m p.1) ⟨show (1 : Int) ≤ 5 by decide, show (5 : Int) ≤ 9 by decide⟩ (by rw [f3]; have := hby.2.1; omega) (by rw [f3]; have := hby.2.2; omega))
  rw [f1, f3] at h9
  exact h9
 have CC := Lib.hid CC
 have CD := Lib.hid CD
 rw [h6] at *
 generalize findA to a = k at *
 clear hb hv h4 h5 hp hq hx hy e1 e2 e3 e4 f1 f2 f3 f4 hve hvz hlx hly hcx hcy hcn hbx hby hbP hPB h6
 clear h ho
 go_enter Tryz.func55, Tryz.ntmps55
 go_upto_region 12 with (first | ((first | (go_at_call 56; refine (CV.out _ HB.out).mono ?_) | (go_at_call 59; refine (CB.out _ HB.out).mono ?_) | (go_at_call 39; refine (CN.out _).mono ?_) | (go_at_call 67; refine (CM.out _ HB.out).mono ?_) | (go_at_call 60; refine (CT.out _).mono ?_) | (go_at_call 68; refine (CW.out _ HB.out).mono ?_) | (go_at_call 17; refine (CL.out _ HB.out).mono ?_)); rintro e w1 ⟨rfl, hbn⟩; have HB9 := Lib.hid (bStep HB.out hbn); clear HB hbn; have HB := HB9; clear HB9) | (go_at_call 57; refine (CF.out _ HB.out).mono ?_; rintro e w1 ⟨rfl, hbn⟩; have HB9 := Lib.hid (bStep HB.out hbn); clear HB hbn; have HB := HB9; clear HB9; have cn := cell_step HCV.out.2.2.1 HB.out; have ln := Nat.lt_of_lt_of_le HCV.out.2.2.2 HB.out.size))
 have HT1 := Lib.hid (blk_new w1 (.cells #[.int .i64 6, .int .i64 t, .int .i64 0, .int .i64 0, .string m, .string to] 29))
 have HB9 := Lib.hid (bStep HB.out (bAl (W := w1) (o := (.cells #[.int .i64 6, .int .i64 t, .int .i64 0, .int .i64 0, .string m, .string to] 29))))
 clear HB cn ln
 have HB := HB9
 clear HB9
 generalize w1.alloc (.cells #[.int .i64 6, .int .i64 t, .int .i64 0, .int .i64 0, .string m, .string to] 29) = W1 at *
 generalize w1.heap.size = T1 at *
 have cn := cell_step HCV.out.2.2.1 HB.out; have ln := Nat.lt_of_lt_of_le HCV.out.2.2.2 HB.out.size
 go_upto_region 13 with fail
 have HT1B := Lib.hid (blk_step HT1.out (bAl (W := W1) (o := (.cells #[.int .i64 5, .int .i64 t, .int .i64 0, .int .i64 0, .string m, .string p.1] 29))))
 have HT2 := Lib.hid (blk_new W1 (.cells #[.int .i64 5, .int .i64 t, .int .i64 0, .int .i64 0, .string m, .string p.1] 29))
 have HB9 := Lib.hid (bStep HB.out (bAl (W := W1) (o := (.cells #[.int .i64 5, .int .i64 t, .int .i64 0, .int .i64 0, .string m, .string p.1] 29))))
 clear HB cn ln HT1
 have HB := HB9
 clear HB9
 generalize W1.alloc (.cells #[.int .i64 5, .int .i64 t, .int .i64 0, .int .i64 0, .string m, .string p.1] 29) = W2 at *
 generalize W1.heap.size = T2 at *
 have hps := fun s : WStep W2 => ptr_same s.1 ⟨PB, k * 20, none⟩
 have u00 : ∀ s : WStep W2, s.1.cell? ⟨T1, 0, none⟩ = some (.int .i64 6) := fun s => cell_step (blk_cell HT1B.out rfl) s.2
 have u01 : ∀ s : WStep W2, s.1.cell? ⟨T1, 1, none⟩ = some (.int .i64 t) := fun s => cell_step (blk_cell HT1B.out rfl) s.2
 have u02 : ∀ s : WStep W2, s.1.cell? ⟨T1, 2, none⟩ = some (.int .i64 0) := fun s => cell_step (blk_cell HT1B.out rfl) s.2
 have u03 : ∀ s : WStep W2, s.1.cell? ⟨T1, 3, none⟩ = some (.int .i64 0) := fun s => cell_step (blk_cell HT1B.out rfl) s.2
 have u04 : ∀ s : WStep W2, s.1.cell? ⟨T1, 4, none⟩ = some (.string m) := fun s => cell_step (blk_cell HT1B.out rfl) s.2
 have u05 : ∀ s : WStep W2, s.1.cell? ⟨T1, 5, none⟩ = some (.string to) := fun s => cell_step (blk_cell HT1B.out rfl) s.2
 have u10 : ∀ s : WStep W2, s.1.cell? ⟨T2, 0, none⟩ = some (.int .i64 5) := fun s => cell_step (blk_cell HT2.out rfl) s.2
 have u11 : ∀ s : WStep W2, s.1.cell? ⟨T2, 1, none⟩ = some (.int .i64 t) := fun s => cell_step (blk_cell HT2.out rfl) s.2
 have u12 : ∀ s : WStep W2, s.1.cell? ⟨T2, 2, none⟩ = some (.int .i64 0) := fun s => cell_step (blk_cell HT2.out rfl) s.2
 have u13 : ∀ s : WStep W2, s.1.cell? ⟨T2, 3, none⟩ = some (.int .i64 0) := fun s => cell_step (blk_cell HT2.out rfl) s.2
 have u14 : ∀ s : WStep W2, s.1.cell? ⟨T2, 4, none⟩ = some (.string m) := fun s => cell_step (blk_cell HT2.out rfl) s.2
 have u15 : ∀ s : WStep W2, s.1.cell? ⟨T2, 5, none⟩ = some (.string p.1) := fun s => cell_step (blk_cell HT2.out rfl) s.2
 have ul0 : ∀ s : WStep W2, T1 < s.1.heap.size := fun s => Nat.lt_of_lt_of_le (blk_lt HT1B.out) s.2.size
 have ul1 : ∀ s : WStep W2, T2 < s.1.heap.size := fun s => Nat.lt_of_lt_of_le (blk_lt HT2.out) s.2.size
 have CX := Lib.hid (CC.out _ HB.out)
 have CY := Lib.hid (CD.out _ HB.out)
 refine wp_region_lock (by kernel_rfl) (by kernel_rfl) ?_
 repeat (first | (refine WQ.skip rfl rfl rfl rfl ?_; simp only [Act.put, sl1, sl2, sl3, sl4]) | ((first | (apply WQ.val; (exact rfl)) | (apply WQ.valg; (exact rfl); (exact rfl); (exact rfl))); (intro w9 hw9; obtain ⟨s9, rfl⟩ := hw9; simp [go_sem, u00, u01, u02, u03, u04, u05, u10, u11, u12, u13, u14, u15, ul0, ul1, hps]; first | done | exact rfl | (with_reducible exact CX.out s9) | (with_reducible exact CY.out s9)); simp only [Act.put, sl1, sl2, sl3, sl4]))
 refine WQ.fin fun W4 hbn => ?_
 have HT1C := Lib.hid (blk_step HT1B.out hbn); have HT2C := Lib.hid (blk_step HT2.out hbn); have HB9 := Lib.hid (bStep HB.out hbn); clear HB hbn HT1B HT2 CX CY; have HB := HB9; clear HB9
 clear u00 u01 u02 u03 u04 u05 u10 u11 u12 u13 u14 u15 ul0 ul1
 go_wp2_with ((first | (go_at_call 56; refine (CV.out _ HB.out).mono ?_) | (go_at_call 59; refine (CB.out _ HB.out).mono ?_) | (go_at_call 39; refine (CN.out _).mono ?_) | (go_at_call 67; refine (CM.out _ HB.out).mono ?_) | (go_at_call 60; refine (CT.out _).mono ?_) | (go_at_call 68; refine (CW.out _ HB.out).mono ?_) | (go_at_call 57; refine (CF.out _ HB.out).mono ?_) | (go_at_call 17; refine (CL.out _ HB.out).mono ?_)); rintro e w1 ⟨rfl, hbn⟩; have HB9 := Lib.hid (bStep HB.out hbn); clear HB hbn; have HB := HB9; clear HB9)
 exact bodyPost_ret (v := .int .i64 10) (by simp only [results, Tryz.results55]; go_simp) rfl ⟨rfl, H.out.stay HB.out⟩
set_option maxHeartbeats 4000000 in
set_option maxRecDepth 20000 in
theorem Move_6 {B R : Nat} {a : RegA} {g : RegS} {vb vp : Value} {w : World} (h : RegV B R vb a g vp w) (ho : OkA a) (hG : Glob0 w) (b t : Int) (m to : ByteArray) (hs : m.size ≤ 1000000 ∧ to.size ≤ 1000000) (hb : 0 ≤ b ∧ b < a.bks.length) (hv : modB m = true ∧ nameB to = true ∧ timeB t = true) (p q : ByteArray × List Ent) (hp : a.ps[whereA m a]? = some p) (hq : a.ps[findA to a]? = some q) (h6 : whereA m a ≠ findA to a) (h7 : canP p.1 (lf p) (takeE t m to) = false) :
  Calls Tryz.prog 55 #[.pointer (some ⟨R, 0, none⟩), .int .i64 b, .int .i64 t, .string m, .string to] w fun en w' => en = .returned (.int .i64 (moveA a b t m to).1) ∧ RegN B R vb (moveA a b t m to).2 g vp w w' := by
 rw [show moveA a b t m to = (10, a) from by rw [moveA_4 hb hv hp hq, if_pos (Or.inr (Or.inl h7))]]
 dsimp only
 have hok := h.ok ho.toOkB
 have hbks : g.bks = a.bks := by rw [← h.abs]; rfl
 have hlen := h.len
 have hnp := ho.np
 have hla : leftR g b = leftA a b := by rw [left_abs, h.abs]
 have H := Lib.hid h
 obtain ⟨pa, cp, hvp⟩ := h.ra.vpS
 subst hvp
 have hms : ∀ q ∈ g.qs, q.life.ms.length ≤ 1000000 := fun q hq => by
  obtain ⟨i, hi⟩ := List.getElem?_of_mem hq
  have h9 := (ho.toOkB.life (List.mem_of_getElem? (h.put hi))).2.1
  rw [(h.lf q hq).1]
  exact Nat.le_trans h9 (by omega)
 have CV := Lib.hid (fun W (hW : Below w.heap.size w W) => valid_any (h.ra.step hW) hok.pt.1)
 have CB := Lib.hid (fun W (hW : Below w.heap.size w W) => book_any (h.ra.step hW) b)
 have CN := Lib.hid (fun W => isName_any to W (by omega))
 have CM := Lib.hid (fun W (hW : Below w.heap.size w W) => isModule_any m W hs.1 (gstep hG hW))
 have CT := Lib.hid (fun W => isTime_any t W)
 have CW := Lib.hid (fun W (hW : Below w.heap.size w W) => where_any (h.ra.step hW) m (by omega) hms)
 have CF := Lib.hid (fun W (hW : Below w.heap.size w W) => find_any (h.ra.step hW) to (by omega))
 have CL := Lib.hid (fun W (hW : Below w.heap.size w W) => Left_any (h.ra.step hW) hok b)
 rw [hbks] at CB
 rw [hla] at CL
 rw [h.find] at CF
 rw [h.whr] at CW
 have HG := Lib.hid hG
 have HO := Lib.hid ho
 have HLN := Lib.hid hlen
 have HS := Lib.hid hs
 have HB := Lib.hid (Below.refl w.heap.size w)
 generalize (cutS m).1 = o1 at *
 clear hok hbks hnp hla hG hs hlen hms
 rw [decide_eq_true hb] at CB
 rw [hv.1] at CM
 rw [hv.2.1] at CN
 rw [hv.2.2] at CT
 have h4 : whereA m a < a.ps.length := (List.getElem?_eq_some_iff.1 hp).1
 have h5 : findA to a < a.ps.length := (List.getElem?_eq_some_iff.1 hq).1
 obtain ⟨PB, cp2, cur, evp, hPB, hbP, -⟩ := h.ra.packs (by rintro c; have h9 := HLN.out; rw [c] at h9; simp at h9; omega)
 cases evp
 rw [ptr_yes (by have := HLN.out; omega)] at CW
 rw [ptr_yes (by have := HLN.out; omega)] at CF
 obtain ⟨x, hx, e1, e2, e3, e4⟩ := h.get hp
 obtain ⟨y, hy, f1, f2, f3, f4⟩ := h.get hq
 obtain ⟨pv, cv, hve⟩ := h.ra.veS (List.mem_of_getElem? hx)
 obtain ⟨pz, cz, hvz⟩ := h.ra.veS (List.mem_of_getElem? hy)
 have hlx := h.ra.life rfl hx
 have hly := h.ra.life rfl hy
 have hcx := hlx.2.2
 rw [hve, e2] at hcx
 have hcy := hly.2.2
 rw [hvz, f2] at hcy
 have hcn := hlx.1.open1.1
 rw [e1] at hcn
 have HCV := Lib.hid (And.intro hcx (And.intro hcy (And.intro hcn hlx.1.lt)))
 have hbx := HO.out.toOkB.life (List.mem_of_getElem? hp)
 have hby := HO.out.toOkB.life (List.mem_of_getElem? hq)
 have CC : ∀ W, Below w.heap.size w W → ∀ s : WStep W, Calls Tryz.prog 43 #[.pointer (some ⟨PB, whereA m a * 20, none⟩), (.agg #[.int .i64 6, .int .i64 t, .int .i64 0, .int .i64 0, .string m, .string to])] s.1 fun e w' => e = .returned (.bool (canP p.1 (lf p) (takeE t m to))) ∧ ∃ t : WStep W, w' = t.1 := fun W hW s => by
  have h9 := step_call s (can_any ((hlx.1.step hW).step s.2) (takeE t m to) ⟨show (1 : Int) ≤ 6 by decide, show (6 : Int) ≤ 9 by decide⟩ (by rw [e3]; have := hbx.2.1; omega) (by rw [e3]; have := hbx.2.2; omega))
  rw [e1, e3] at h9
  exact h9
 have CD : ∀ W, Below w.heap.size w W → ∀ s : WStep W, Calls Tryz.prog 43 #[.pointer (some ⟨PB, findA to a * 20, none⟩), (.agg #[.int .i64 5, .int .i64 t, .int .i64 0, .int .i64 0, .string m, .string p.1])] s.1 fun e w' => e = .returned (.bool (canP q.1 (lf q) (bringE t m p.1))) ∧ ∃ t : WStep W, w' = t.1 := fun W hW s => by
  have h9 := step_call s (can_any ((hly.1.step hW).step s.2) (bringE t m p.1) ⟨show (1 : Int) ≤ 5 by decide, show (5 : Int) ≤ 9 by decide⟩ (by rw [f3]; have := hby.2.1; omega) (by rw [f3]; have := hby.2.2; omega))
  rw [f1, f3] at h9
  exact h9
 have hnE : ∀ W, Below w.heap.size w W → ∀ s : WStep W, (binOp .eql 112 (.pointer (some ⟨PB, whereA m a * 20, none⟩)) (.pointer (some ⟨PB, findA to a * 20, none⟩))).run Tryz.prog s.1 = .ok (.bool false) s.1 := fun W hW s => ptr_other (blk_step (blk_step hbP hW) s.2) h6
 have HNE := Lib.hid hnE
 clear hnE
 rw [h7] at CC
 have CC := Lib.hid CC
 have CD := Lib.hid CD
 generalize whereA m a = i at *
 generalize findA to a = k at *
 clear hb hv h4 h5 hp hq hx hy e1 e2 e3 e4 f1 f2 f3 f4 hve hvz hlx hly hcx hcy hcn hbx hby hbP hPB h6 h7
 clear h ho
 go_enter Tryz.func55, Tryz.ntmps55
 go_upto_region 12 with (first | ((first | (go_at_call 56; refine (CV.out _ HB.out).mono ?_) | (go_at_call 59; refine (CB.out _ HB.out).mono ?_) | (go_at_call 39; refine (CN.out _).mono ?_) | (go_at_call 67; refine (CM.out _ HB.out).mono ?_) | (go_at_call 60; refine (CT.out _).mono ?_) | (go_at_call 68; refine (CW.out _ HB.out).mono ?_) | (go_at_call 17; refine (CL.out _ HB.out).mono ?_)); rintro e w1 ⟨rfl, hbn⟩; have HB9 := Lib.hid (bStep HB.out hbn); clear HB hbn; have HB := HB9; clear HB9) | (go_at_call 57; refine (CF.out _ HB.out).mono ?_; rintro e w1 ⟨rfl, hbn⟩; have HB9 := Lib.hid (bStep HB.out hbn); clear HB hbn; have HB := HB9; clear HB9; have cn := cell_step HCV.out.2.2.1 HB.out; have ln := Nat.lt_of_lt_of_le HCV.out.2.2.2 HB.out.size))
 have HT1 := Lib.hid (blk_new w1 (.cells #[.int .i64 6, .int .i64 t, .int .i64 0, .int .i64 0, .string m, .string to] 29))
 have HB9 := Lib.hid (bStep HB.out (bAl (W := w1) (o := (.cells #[.int .i64 6, .int .i64 t, .int .i64 0, .int .i64 0, .string m, .string to] 29))))
 clear HB cn ln
 have HB := HB9
 clear HB9
 generalize w1.alloc (.cells #[.int .i64 6, .int .i64 t, .int .i64 0, .int .i64 0, .string m, .string to] 29) = W1 at *
 generalize w1.heap.size = T1 at *
 have cn := cell_step HCV.out.2.2.1 HB.out; have ln := Nat.lt_of_lt_of_le HCV.out.2.2.2 HB.out.size
 go_upto_region 13 with fail
 have HT1B := Lib.hid (blk_step HT1.out (bAl (W := W1) (o := (.cells #[.int .i64 5, .int .i64 t, .int .i64 0, .int .i64 0, .string m, .string p.1] 29))))
 have HT2 := Lib.hid (blk_new W1 (.cells #[.int .i64 5, .int .i64 t, .int .i64 0, .int .i64 0, .string m, .string p.1] 29))
 have HB9 := Lib.hid (bStep HB.out (bAl (W := W1) (o := (.cells #[.int .i64 5, .int .i64 t, .int .i64 0, .int .i64 0, .string m, .string p.1] 29))))
 clear HB cn ln HT1
 have HB := HB9
 clear HB9
 generalize W1.alloc (.cells #[.int .i64 5, .int .i64 t, .int .i64 0, .int .i64 0, .string m, .string p.1] 29) = W2 at *
 generalize W1.heap.size = T2 at *
 have hne := HNE.out _ HB.out
 have u00 : ∀ s : WStep W2, s.1.cell? ⟨T1, 0, none⟩ = some (.int .i64 6) := fun s => cell_step (blk_cell HT1B.out rfl) s.2
 have u01 : ∀ s : WStep W2, s.1.cell? ⟨T1, 1, none⟩ = some (.int .i64 t) := fun s => cell_step (blk_cell HT1B.out rfl) s.2
 have u02 : ∀ s : WStep W2, s.1.cell? ⟨T1, 2, none⟩ = some (.int .i64 0) := fun s => cell_step (blk_cell HT1B.out rfl) s.2
 have u03 : ∀ s : WStep W2, s.1.cell? ⟨T1, 3, none⟩ = some (.int .i64 0) := fun s => cell_step (blk_cell HT1B.out rfl) s.2
 have u04 : ∀ s : WStep W2, s.1.cell? ⟨T1, 4, none⟩ = some (.string m) := fun s => cell_step (blk_cell HT1B.out rfl) s.2
 have u05 : ∀ s : WStep W2, s.1.cell? ⟨T1, 5, none⟩ = some (.string to) := fun s => cell_step (blk_cell HT1B.out rfl) s.2
 have u10 : ∀ s : WStep W2, s.1.cell? ⟨T2, 0, none⟩ = some (.int .i64 5) := fun s => cell_step (blk_cell HT2.out rfl) s.2
 have u11 : ∀ s : WStep W2, s.1.cell? ⟨T2, 1, none⟩ = some (.int .i64 t) := fun s => cell_step (blk_cell HT2.out rfl) s.2
 have u12 : ∀ s : WStep W2, s.1.cell? ⟨T2, 2, none⟩ = some (.int .i64 0) := fun s => cell_step (blk_cell HT2.out rfl) s.2
 have u13 : ∀ s : WStep W2, s.1.cell? ⟨T2, 3, none⟩ = some (.int .i64 0) := fun s => cell_step (blk_cell HT2.out rfl) s.2
 have u14 : ∀ s : WStep W2, s.1.cell? ⟨T2, 4, none⟩ = some (.string m) := fun s => cell_step (blk_cell HT2.out rfl) s.2
 have u15 : ∀ s : WStep W2, s.1.cell? ⟨T2, 5, none⟩ = some (.string p.1) := fun s => cell_step (blk_cell HT2.out rfl) s.2
 have ul0 : ∀ s : WStep W2, T1 < s.1.heap.size := fun s => Nat.lt_of_lt_of_le (blk_lt HT1B.out) s.2.size
 have ul1 : ∀ s : WStep W2, T2 < s.1.heap.size := fun s => Nat.lt_of_lt_of_le (blk_lt HT2.out) s.2.size
 have CX := Lib.hid (CC.out _ HB.out)
 have CY := Lib.hid (CD.out _ HB.out)
 refine wp_region_lock (by kernel_rfl) (by kernel_rfl) ?_
 repeat (first | (refine WQ.skip rfl rfl rfl rfl ?_; simp only [Act.put, sl1, sl2, sl3, sl4]) | ((first | (apply WQ.val; (exact rfl)) | (apply WQ.valg; (exact rfl); (exact rfl); (exact rfl))); (intro w9 hw9; obtain ⟨s9, rfl⟩ := hw9; simp [go_sem, u00, u01, u02, u03, u04, u05, u10, u11, u12, u13, u14, u15, ul0, ul1, hne]; first | done | exact rfl | (with_reducible exact CX.out s9) | (with_reducible exact CY.out s9)); simp only [Act.put, sl1, sl2, sl3, sl4]))
 refine WQ.fin fun W4 hbn => ?_
 have HT1C := Lib.hid (blk_step HT1B.out hbn); have HT2C := Lib.hid (blk_step HT2.out hbn); have HB9 := Lib.hid (bStep HB.out hbn); clear HB hbn HT1B HT2 CX CY; have HB := HB9; clear HB9
 clear u00 u01 u02 u03 u04 u05 u10 u11 u12 u13 u14 u15 ul0 ul1
 go_wp2_with ((first | (go_at_call 56; refine (CV.out _ HB.out).mono ?_) | (go_at_call 59; refine (CB.out _ HB.out).mono ?_) | (go_at_call 39; refine (CN.out _).mono ?_) | (go_at_call 67; refine (CM.out _ HB.out).mono ?_) | (go_at_call 60; refine (CT.out _).mono ?_) | (go_at_call 68; refine (CW.out _ HB.out).mono ?_) | (go_at_call 57; refine (CF.out _ HB.out).mono ?_) | (go_at_call 17; refine (CL.out _ HB.out).mono ?_)); rintro e w1 ⟨rfl, hbn⟩; have HB9 := Lib.hid (bStep HB.out hbn); clear HB hbn; have HB := HB9; clear HB9)
 exact bodyPost_ret (v := .int .i64 10) (by simp only [results, Tryz.results55]; go_simp) rfl ⟨rfl, H.out.stay HB.out⟩
set_option maxHeartbeats 4000000 in
set_option maxRecDepth 20000 in
theorem Move_7 {B R : Nat} {a : RegA} {g : RegS} {vb vp : Value} {w : World} (h : RegV B R vb a g vp w) (ho : OkA a) (hG : Glob0 w) (b t : Int) (m to : ByteArray) (hs : m.size ≤ 1000000 ∧ to.size ≤ 1000000) (hb : 0 ≤ b ∧ b < a.bks.length) (hv : modB m = true ∧ nameB to = true ∧ timeB t = true) (p q : ByteArray × List Ent) (hp : a.ps[whereA m a]? = some p) (hq : a.ps[findA to a]? = some q) (h6 : whereA m a ≠ findA to a) (h7 : canP p.1 (lf p) (takeE t m to) = true) (h8 : canP q.1 (lf q) (bringE t m p.1) = false) :
  Calls Tryz.prog 55 #[.pointer (some ⟨R, 0, none⟩), .int .i64 b, .int .i64 t, .string m, .string to] w fun en w' => en = .returned (.int .i64 (moveA a b t m to).1) ∧ RegN B R vb (moveA a b t m to).2 g vp w w' := by
 rw [show moveA a b t m to = (10, a) from by rw [moveA_4 hb hv hp hq, if_pos (Or.inr (Or.inr h8))]]
 dsimp only
 have hok := h.ok ho.toOkB
 have hbks : g.bks = a.bks := by rw [← h.abs]; rfl
 have hlen := h.len
 have hnp := ho.np
 have hla : leftR g b = leftA a b := by rw [left_abs, h.abs]
 have H := Lib.hid h
 obtain ⟨pa, cp, hvp⟩ := h.ra.vpS
 subst hvp
 have hms : ∀ q ∈ g.qs, q.life.ms.length ≤ 1000000 := fun q hq => by
  obtain ⟨i, hi⟩ := List.getElem?_of_mem hq
  have h9 := (ho.toOkB.life (List.mem_of_getElem? (h.put hi))).2.1
  rw [(h.lf q hq).1]
  exact Nat.le_trans h9 (by omega)
 have CV := Lib.hid (fun W (hW : Below w.heap.size w W) => valid_any (h.ra.step hW) hok.pt.1)
 have CB := Lib.hid (fun W (hW : Below w.heap.size w W) => book_any (h.ra.step hW) b)
 have CN := Lib.hid (fun W => isName_any to W (by omega))
 have CM := Lib.hid (fun W (hW : Below w.heap.size w W) => isModule_any m W hs.1 (gstep hG hW))
 have CT := Lib.hid (fun W => isTime_any t W)
 have CW := Lib.hid (fun W (hW : Below w.heap.size w W) => where_any (h.ra.step hW) m (by omega) hms)
 have CF := Lib.hid (fun W (hW : Below w.heap.size w W) => find_any (h.ra.step hW) to (by omega))
 have CL := Lib.hid (fun W (hW : Below w.heap.size w W) => Left_any (h.ra.step hW) hok b)
 rw [hbks] at CB
 rw [hla] at CL
 rw [h.find] at CF
 rw [h.whr] at CW
 have HG := Lib.hid hG
 have HO := Lib.hid ho
 have HLN := Lib.hid hlen
 have HS := Lib.hid hs
 have HB := Lib.hid (Below.refl w.heap.size w)
 generalize (cutS m).1 = o1 at *
 clear hok hbks hnp hla hG hs hlen hms
 rw [decide_eq_true hb] at CB
 rw [hv.1] at CM
 rw [hv.2.1] at CN
 rw [hv.2.2] at CT
 have h4 : whereA m a < a.ps.length := (List.getElem?_eq_some_iff.1 hp).1
 have h5 : findA to a < a.ps.length := (List.getElem?_eq_some_iff.1 hq).1
 obtain ⟨PB, cp2, cur, evp, hPB, hbP, -⟩ := h.ra.packs (by rintro c; have h9 := HLN.out; rw [c] at h9; simp at h9; omega)
 cases evp
 rw [ptr_yes (by have := HLN.out; omega)] at CW
 rw [ptr_yes (by have := HLN.out; omega)] at CF
 obtain ⟨x, hx, e1, e2, e3, e4⟩ := h.get hp
 obtain ⟨y, hy, f1, f2, f3, f4⟩ := h.get hq
 obtain ⟨pv, cv, hve⟩ := h.ra.veS (List.mem_of_getElem? hx)
 obtain ⟨pz, cz, hvz⟩ := h.ra.veS (List.mem_of_getElem? hy)
 have hlx := h.ra.life rfl hx
 have hly := h.ra.life rfl hy
 have hcx := hlx.2.2
 rw [hve, e2] at hcx
 have hcy := hly.2.2
 rw [hvz, f2] at hcy
 have hcn := hlx.1.open1.1
 rw [e1] at hcn
 have HCV := Lib.hid (And.intro hcx (And.intro hcy (And.intro hcn hlx.1.lt)))
 have hbx := HO.out.toOkB.life (List.mem_of_getElem? hp)
 have hby := HO.out.toOkB.life (List.mem_of_getElem? hq)
 have CC : ∀ W, Below w.heap.size w W → ∀ s : WStep W, Calls Tryz.prog 43 #[.pointer (some ⟨PB, whereA m a * 20, none⟩), (.agg #[.int .i64 6, .int .i64 t, .int .i64 0, .int .i64 0, .string m, .string to])] s.1 fun e w' => e = .returned (.bool (canP p.1 (lf p) (takeE t m to))) ∧ ∃ t : WStep W, w' = t.1 := fun W hW s => by
  have h9 := step_call s (can_any ((hlx.1.step hW).step s.2) (takeE t m to) ⟨show (1 : Int) ≤ 6 by decide, show (6 : Int) ≤ 9 by decide⟩ (by rw [e3]; have := hbx.2.1; omega) (by rw [e3]; have := hbx.2.2; omega))
  rw [e1, e3] at h9
  exact h9
 have CD : ∀ W, Below w.heap.size w W → ∀ s : WStep W, Calls Tryz.prog 43 #[.pointer (some ⟨PB, findA to a * 20, none⟩), (.agg #[.int .i64 5, .int .i64 t, .int .i64 0, .int .i64 0, .string m, .string p.1])] s.1 fun e w' => e = .returned (.bool (canP q.1 (lf q) (bringE t m p.1))) ∧ ∃ t : WStep W, w' = t.1 := fun W hW s => by
  have h9 := step_call s (can_any ((hly.1.step hW).step s.2) (bringE t m p.1) ⟨show (1 : Int) ≤ 5 by decide, show (5 : Int) ≤ 9 by decide⟩ (by rw [f3]; have := hby.2.1; omega) (by rw [f3]; have := hby.2.2; omega))
  rw [f1, f3] at h9
  exact h9
 have hnE : ∀ W, Below w.heap.size w W → ∀ s : WStep W, (binOp .eql 112 (.pointer (some ⟨PB, whereA m a * 20, none⟩)) (.pointer (some ⟨PB, findA to a * 20, none⟩))).run Tryz.prog s.1 = .ok (.bool false) s.1 := fun W hW s => ptr_other (blk_step (blk_step hbP hW) s.2) h6
 have HNE := Lib.hid hnE
 clear hnE
 rw [h7] at CC
 rw [h8] at CD
 have CC := Lib.hid CC
 have CD := Lib.hid CD
 generalize whereA m a = i at *
 generalize findA to a = k at *
 clear hb hv h4 h5 hp hq hx hy e1 e2 e3 e4 f1 f2 f3 f4 hve hvz hlx hly hcx hcy hcn hbx hby hbP hPB h6 h7 h8
 clear h ho
 go_enter Tryz.func55, Tryz.ntmps55
 go_upto_region 12 with (first | ((first | (go_at_call 56; refine (CV.out _ HB.out).mono ?_) | (go_at_call 59; refine (CB.out _ HB.out).mono ?_) | (go_at_call 39; refine (CN.out _).mono ?_) | (go_at_call 67; refine (CM.out _ HB.out).mono ?_) | (go_at_call 60; refine (CT.out _).mono ?_) | (go_at_call 68; refine (CW.out _ HB.out).mono ?_) | (go_at_call 17; refine (CL.out _ HB.out).mono ?_)); rintro e w1 ⟨rfl, hbn⟩; have HB9 := Lib.hid (bStep HB.out hbn); clear HB hbn; have HB := HB9; clear HB9) | (go_at_call 57; refine (CF.out _ HB.out).mono ?_; rintro e w1 ⟨rfl, hbn⟩; have HB9 := Lib.hid (bStep HB.out hbn); clear HB hbn; have HB := HB9; clear HB9; have cn := cell_step HCV.out.2.2.1 HB.out; have ln := Nat.lt_of_lt_of_le HCV.out.2.2.2 HB.out.size))
 have HT1 := Lib.hid (blk_new w1 (.cells #[.int .i64 6, .int .i64 t, .int .i64 0, .int .i64 0, .string m, .string to] 29))
 have HB9 := Lib.hid (bStep HB.out (bAl (W := w1) (o := (.cells #[.int .i64 6, .int .i64 t, .int .i64 0, .int .i64 0, .string m, .string to] 29))))
 clear HB cn ln
 have HB := HB9
 clear HB9
 generalize w1.alloc (.cells #[.int .i64 6, .int .i64 t, .int .i64 0, .int .i64 0, .string m, .string to] 29) = W1 at *
 generalize w1.heap.size = T1 at *
 have cn := cell_step HCV.out.2.2.1 HB.out; have ln := Nat.lt_of_lt_of_le HCV.out.2.2.2 HB.out.size
 go_upto_region 13 with fail
 have HT1B := Lib.hid (blk_step HT1.out (bAl (W := W1) (o := (.cells #[.int .i64 5, .int .i64 t, .int .i64 0, .int .i64 0, .string m, .string p.1] 29))))
 have HT2 := Lib.hid (blk_new W1 (.cells #[.int .i64 5, .int .i64 t, .int .i64 0, .int .i64 0, .string m, .string p.1] 29))
 have HB9 := Lib.hid (bStep HB.out (bAl (W := W1) (o := (.cells #[.int .i64 5, .int .i64 t, .int .i64 0, .int .i64 0, .string m, .string p.1] 29))))
 clear HB cn ln HT1
 have HB := HB9
 clear HB9
 generalize W1.alloc (.cells #[.int .i64 5, .int .i64 t, .int .i64 0, .int .i64 0, .string m, .string p.1] 29) = W2 at *
 generalize W1.heap.size = T2 at *
 have hne := HNE.out _ HB.out
 have u00 : ∀ s : WStep W2, s.1.cell? ⟨T1, 0, none⟩ = some (.int .i64 6) := fun s => cell_step (blk_cell HT1B.out rfl) s.2
 have u01 : ∀ s : WStep W2, s.1.cell? ⟨T1, 1, none⟩ = some (.int .i64 t) := fun s => cell_step (blk_cell HT1B.out rfl) s.2
 have u02 : ∀ s : WStep W2, s.1.cell? ⟨T1, 2, none⟩ = some (.int .i64 0) := fun s => cell_step (blk_cell HT1B.out rfl) s.2
 have u03 : ∀ s : WStep W2, s.1.cell? ⟨T1, 3, none⟩ = some (.int .i64 0) := fun s => cell_step (blk_cell HT1B.out rfl) s.2
 have u04 : ∀ s : WStep W2, s.1.cell? ⟨T1, 4, none⟩ = some (.string m) := fun s => cell_step (blk_cell HT1B.out rfl) s.2
 have u05 : ∀ s : WStep W2, s.1.cell? ⟨T1, 5, none⟩ = some (.string to) := fun s => cell_step (blk_cell HT1B.out rfl) s.2
 have u10 : ∀ s : WStep W2, s.1.cell? ⟨T2, 0, none⟩ = some (.int .i64 5) := fun s => cell_step (blk_cell HT2.out rfl) s.2
 have u11 : ∀ s : WStep W2, s.1.cell? ⟨T2, 1, none⟩ = some (.int .i64 t) := fun s => cell_step (blk_cell HT2.out rfl) s.2
 have u12 : ∀ s : WStep W2, s.1.cell? ⟨T2, 2, none⟩ = some (.int .i64 0) := fun s => cell_step (blk_cell HT2.out rfl) s.2
 have u13 : ∀ s : WStep W2, s.1.cell? ⟨T2, 3, none⟩ = some (.int .i64 0) := fun s => cell_step (blk_cell HT2.out rfl) s.2
 have u14 : ∀ s : WStep W2, s.1.cell? ⟨T2, 4, none⟩ = some (.string m) := fun s => cell_step (blk_cell HT2.out rfl) s.2
 have u15 : ∀ s : WStep W2, s.1.cell? ⟨T2, 5, none⟩ = some (.string p.1) := fun s => cell_step (blk_cell HT2.out rfl) s.2
 have ul0 : ∀ s : WStep W2, T1 < s.1.heap.size := fun s => Nat.lt_of_lt_of_le (blk_lt HT1B.out) s.2.size
 have ul1 : ∀ s : WStep W2, T2 < s.1.heap.size := fun s => Nat.lt_of_lt_of_le (blk_lt HT2.out) s.2.size
 have CX := Lib.hid (CC.out _ HB.out)
 have CY := Lib.hid (CD.out _ HB.out)
 refine wp_region_lock (by kernel_rfl) (by kernel_rfl) ?_
 repeat (first | (refine WQ.skip rfl rfl rfl rfl ?_; simp only [Act.put, sl1, sl2, sl3, sl4]) | ((first | (apply WQ.val; (exact rfl)) | (apply WQ.valg; (exact rfl); (exact rfl); (exact rfl))); (intro w9 hw9; obtain ⟨s9, rfl⟩ := hw9; simp [go_sem, u00, u01, u02, u03, u04, u05, u10, u11, u12, u13, u14, u15, ul0, ul1, hne]; first | done | exact rfl | (with_reducible exact CX.out s9) | (with_reducible exact CY.out s9)); simp only [Act.put, sl1, sl2, sl3, sl4]))
 refine WQ.fin fun W4 hbn => ?_
 have HT1C := Lib.hid (blk_step HT1B.out hbn); have HT2C := Lib.hid (blk_step HT2.out hbn); have HB9 := Lib.hid (bStep HB.out hbn); clear HB hbn HT1B HT2 CX CY; have HB := HB9; clear HB9
 clear u00 u01 u02 u03 u04 u05 u10 u11 u12 u13 u14 u15 ul0 ul1
 go_wp2_with ((first | (go_at_call 56; refine (CV.out _ HB.out).mono ?_) | (go_at_call 59; refine (CB.out _ HB.out).mono ?_) | (go_at_call 39; refine (CN.out _).mono ?_) | (go_at_call 67; refine (CM.out _ HB.out).mono ?_) | (go_at_call 60; refine (CT.out _).mono ?_) | (go_at_call 68; refine (CW.out _ HB.out).mono ?_) | (go_at_call 57; refine (CF.out _ HB.out).mono ?_) | (go_at_call 17; refine (CL.out _ HB.out).mono ?_)); rintro e w1 ⟨rfl, hbn⟩; have HB9 := Lib.hid (bStep HB.out hbn); clear HB hbn; have HB := HB9; clear HB9)
 exact bodyPost_ret (v := .int .i64 10) (by simp only [results, Tryz.results55]; go_simp) rfl ⟨rfl, H.out.stay HB.out⟩
set_option maxHeartbeats 4000000 in
set_option maxRecDepth 20000 in
theorem Move_8 {B R : Nat} {a : RegA} {g : RegS} {vb vp : Value} {w : World} (h : RegV B R vb a g vp w) (ho : OkA a) (hG : Glob0 w) (b t : Int) (m to : ByteArray) (hs : m.size ≤ 1000000 ∧ to.size ≤ 1000000) (hb : 0 ≤ b ∧ b < a.bks.length) (hv : modB m = true ∧ nameB to = true ∧ timeB t = true) (p q : ByteArray × List Ent) (hp : a.ps[whereA m a]? = some p) (hq : a.ps[findA to a]? = some q) (h6 : whereA m a ≠ findA to a) (h7 : canP p.1 (lf p) (takeE t m to) = true) (h8 : canP q.1 (lf q) (bringE t m p.1) = true) (h9 : 500 ≤ p.2.length) :
  Calls Tryz.prog 55 #[.pointer (some ⟨R, 0, none⟩), .int .i64 b, .int .i64 t, .string m, .string to] w fun en w' => en = .returned (.int .i64 (moveA a b t m to).1) ∧ RegN B R vb (moveA a b t m to).2 g vp w w' := by
 rw [show moveA a b t m to = (11, a) from by rw [moveA_4 hb hv hp hq]; rw [if_neg (fun c => by rcases c with c | c | c; exact h6 c; rw [h7] at c; cases c; rw [h8] at c; cases c), if_pos (by omega)]]
 dsimp only
 have hok := h.ok ho.toOkB
 have hbks : g.bks = a.bks := by rw [← h.abs]; rfl
 have hlen := h.len
 have hnp := ho.np
 have hla : leftR g b = leftA a b := by rw [left_abs, h.abs]
 have H := Lib.hid h
 obtain ⟨pa, cp, hvp⟩ := h.ra.vpS
 subst hvp
 have hms : ∀ q ∈ g.qs, q.life.ms.length ≤ 1000000 := fun q hq => by
  obtain ⟨i, hi⟩ := List.getElem?_of_mem hq
  have h9 := (ho.toOkB.life (List.mem_of_getElem? (h.put hi))).2.1
  rw [(h.lf q hq).1]
  exact Nat.le_trans h9 (by omega)
 have CV := Lib.hid (fun W (hW : Below w.heap.size w W) => valid_any (h.ra.step hW) hok.pt.1)
 have CB := Lib.hid (fun W (hW : Below w.heap.size w W) => book_any (h.ra.step hW) b)
 have CN := Lib.hid (fun W => isName_any to W (by omega))
 have CM := Lib.hid (fun W (hW : Below w.heap.size w W) => isModule_any m W hs.1 (gstep hG hW))
 have CT := Lib.hid (fun W => isTime_any t W)
 have CW := Lib.hid (fun W (hW : Below w.heap.size w W) => where_any (h.ra.step hW) m (by omega) hms)
 have CF := Lib.hid (fun W (hW : Below w.heap.size w W) => find_any (h.ra.step hW) to (by omega))
 have CL := Lib.hid (fun W (hW : Below w.heap.size w W) => Left_any (h.ra.step hW) hok b)
 rw [hbks] at CB
 rw [hla] at CL
 rw [h.find] at CF
 rw [h.whr] at CW
 have HG := Lib.hid hG
 have HO := Lib.hid ho
 have HLN := Lib.hid hlen
 have HS := Lib.hid hs
 have HB := Lib.hid (Below.refl w.heap.size w)
 generalize (cutS m).1 = o1 at *
 clear hok hbks hnp hla hG hs hlen hms
 rw [decide_eq_true hb] at CB
 rw [hv.1] at CM
 rw [hv.2.1] at CN
 rw [hv.2.2] at CT
 have h4 : whereA m a < a.ps.length := (List.getElem?_eq_some_iff.1 hp).1
 have h5 : findA to a < a.ps.length := (List.getElem?_eq_some_iff.1 hq).1
 obtain ⟨PB, cp2, cur, evp, hPB, hbP, -⟩ := h.ra.packs (by rintro c; have h9 := HLN.out; rw [c] at h9; simp at h9; omega)
 cases evp
 rw [ptr_yes (by have := HLN.out; omega)] at CW
 rw [ptr_yes (by have := HLN.out; omega)] at CF
 obtain ⟨x, hx, e1, e2, e3, e4⟩ := h.get hp
 obtain ⟨y, hy, f1, f2, f3, f4⟩ := h.get hq
 obtain ⟨pv, cv, hve⟩ := h.ra.veS (List.mem_of_getElem? hx)
 obtain ⟨pz, cz, hvz⟩ := h.ra.veS (List.mem_of_getElem? hy)
 have hlx := h.ra.life rfl hx
 have hly := h.ra.life rfl hy
 have hcx := hlx.2.2
 rw [hve, e2] at hcx
 have hcy := hly.2.2
 rw [hvz, f2] at hcy
 have hcn := hlx.1.open1.1
 rw [e1] at hcn
 have HCV := Lib.hid (And.intro hcx (And.intro hcy (And.intro hcn hlx.1.lt)))
 have hbx := HO.out.toOkB.life (List.mem_of_getElem? hp)
 have hby := HO.out.toOkB.life (List.mem_of_getElem? hq)
 have CC : ∀ W, Below w.heap.size w W → ∀ s : WStep W, Calls Tryz.prog 43 #[.pointer (some ⟨PB, whereA m a * 20, none⟩), (.agg #[.int .i64 6, .int .i64 t, .int .i64 0, .int .i64 0, .string m, .string to])] s.1 fun e w' => e = .returned (.bool (canP p.1 (lf p) (takeE t m to))) ∧ ∃ t : WStep W, w' = t.1 := fun W hW s => by
  have h9 := step_call s (can_any ((hlx.1.step hW).step s.2) (takeE t m to) ⟨show (1 : Int) ≤ 6 by decide, show (6 : Int) ≤ 9 by decide⟩ (by rw [e3]; have := hbx.2.1; omega) (by rw [e3]; have := hbx.2.2; omega))
  rw [e1, e3] at h9
  exact h9
 have CD : ∀ W, Below w.heap.size w W → ∀ s : WStep W, Calls Tryz.prog 43 #[.pointer (some ⟨PB, findA to a * 20, none⟩), (.agg #[.int .i64 5, .int .i64 t, .int .i64 0, .int .i64 0, .string m, .string p.1])] s.1 fun e w' => e = .returned (.bool (canP q.1 (lf q) (bringE t m p.1))) ∧ ∃ t : WStep W, w' = t.1 := fun W hW s => by
  have h9 := step_call s (can_any ((hly.1.step hW).step s.2) (bringE t m p.1) ⟨show (1 : Int) ≤ 5 by decide, show (5 : Int) ≤ 9 by decide⟩ (by rw [f3]; have := hby.2.1; omega) (by rw [f3]; have := hby.2.2; omega))
  rw [f1, f3] at h9
  exact h9
 have hnE : ∀ W, Below w.heap.size w W → ∀ s : WStep W, (binOp .eql 112 (.pointer (some ⟨PB, whereA m a * 20, none⟩)) (.pointer (some ⟨PB, findA to a * 20, none⟩))).run Tryz.prog s.1 = .ok (.bool false) s.1 := fun W hW s => ptr_other (blk_step (blk_step hbP hW) s.2) h6
 have HNE := Lib.hid hnE
 clear hnE
 rw [h7] at CC
 rw [h8] at CD
 have CC := Lib.hid CC
 have CD := Lib.hid CD
 have hx5 : (500 : Int) ≤ max (p.2.length : Int) (q.2.length : Int) := by omega
 have hx6 : (500 : Int) ≤ (max p.2.length q.2.length : Nat) := by omega
 generalize p.2.length = L1 at *
 generalize q.2.length = L2 at *
 generalize whereA m a = i at *
 generalize findA to a = k at *
 clear hb hv h4 h5 hp hq hx hy e1 e2 e3 e4 f1 f2 f3 f4 hve hvz hlx hly hcx hcy hcn hbx hby hbP hPB h6 h7 h8 h9
 clear h ho
 go_enter Tryz.func55, Tryz.ntmps55
 go_upto_region 12 with (first | ((first | (go_at_call 56; refine (CV.out _ HB.out).mono ?_) | (go_at_call 59; refine (CB.out _ HB.out).mono ?_) | (go_at_call 39; refine (CN.out _).mono ?_) | (go_at_call 67; refine (CM.out _ HB.out).mono ?_) | (go_at_call 60; refine (CT.out _).mono ?_) | (go_at_call 68; refine (CW.out _ HB.out).mono ?_) | (go_at_call 17; refine (CL.out _ HB.out).mono ?_)); rintro e w1 ⟨rfl, hbn⟩; have HB9 := Lib.hid (bStep HB.out hbn); clear HB hbn; have HB := HB9; clear HB9) | (go_at_call 57; refine (CF.out _ HB.out).mono ?_; rintro e w1 ⟨rfl, hbn⟩; have HB9 := Lib.hid (bStep HB.out hbn); clear HB hbn; have HB := HB9; clear HB9; have cn := cell_step HCV.out.2.2.1 HB.out; have ln := Nat.lt_of_lt_of_le HCV.out.2.2.2 HB.out.size))
 have HT1 := Lib.hid (blk_new w1 (.cells #[.int .i64 6, .int .i64 t, .int .i64 0, .int .i64 0, .string m, .string to] 29))
 have HB9 := Lib.hid (bStep HB.out (bAl (W := w1) (o := (.cells #[.int .i64 6, .int .i64 t, .int .i64 0, .int .i64 0, .string m, .string to] 29))))
 clear HB cn ln
 have HB := HB9
 clear HB9
 generalize w1.alloc (.cells #[.int .i64 6, .int .i64 t, .int .i64 0, .int .i64 0, .string m, .string to] 29) = W1 at *
 generalize w1.heap.size = T1 at *
 have cn := cell_step HCV.out.2.2.1 HB.out; have ln := Nat.lt_of_lt_of_le HCV.out.2.2.2 HB.out.size
 go_upto_region 13 with fail
 have HT1B := Lib.hid (blk_step HT1.out (bAl (W := W1) (o := (.cells #[.int .i64 5, .int .i64 t, .int .i64 0, .int .i64 0, .string m, .string p.1] 29))))
 have HT2 := Lib.hid (blk_new W1 (.cells #[.int .i64 5, .int .i64 t, .int .i64 0, .int .i64 0, .string m, .string p.1] 29))
 have HB9 := Lib.hid (bStep HB.out (bAl (W := W1) (o := (.cells #[.int .i64 5, .int .i64 t, .int .i64 0, .int .i64 0, .string m, .string p.1] 29))))
 clear HB cn ln HT1
 have HB := HB9
 clear HB9
 generalize W1.alloc (.cells #[.int .i64 5, .int .i64 t, .int .i64 0, .int .i64 0, .string m, .string p.1] 29) = W2 at *
 generalize W1.heap.size = T2 at *
 have hne := HNE.out _ HB.out
 have u00 : ∀ s : WStep W2, s.1.cell? ⟨T1, 0, none⟩ = some (.int .i64 6) := fun s => cell_step (blk_cell HT1B.out rfl) s.2
 have u01 : ∀ s : WStep W2, s.1.cell? ⟨T1, 1, none⟩ = some (.int .i64 t) := fun s => cell_step (blk_cell HT1B.out rfl) s.2
 have u02 : ∀ s : WStep W2, s.1.cell? ⟨T1, 2, none⟩ = some (.int .i64 0) := fun s => cell_step (blk_cell HT1B.out rfl) s.2
 have u03 : ∀ s : WStep W2, s.1.cell? ⟨T1, 3, none⟩ = some (.int .i64 0) := fun s => cell_step (blk_cell HT1B.out rfl) s.2
 have u04 : ∀ s : WStep W2, s.1.cell? ⟨T1, 4, none⟩ = some (.string m) := fun s => cell_step (blk_cell HT1B.out rfl) s.2
 have u05 : ∀ s : WStep W2, s.1.cell? ⟨T1, 5, none⟩ = some (.string to) := fun s => cell_step (blk_cell HT1B.out rfl) s.2
 have u10 : ∀ s : WStep W2, s.1.cell? ⟨T2, 0, none⟩ = some (.int .i64 5) := fun s => cell_step (blk_cell HT2.out rfl) s.2
 have u11 : ∀ s : WStep W2, s.1.cell? ⟨T2, 1, none⟩ = some (.int .i64 t) := fun s => cell_step (blk_cell HT2.out rfl) s.2
 have u12 : ∀ s : WStep W2, s.1.cell? ⟨T2, 2, none⟩ = some (.int .i64 0) := fun s => cell_step (blk_cell HT2.out rfl) s.2
 have u13 : ∀ s : WStep W2, s.1.cell? ⟨T2, 3, none⟩ = some (.int .i64 0) := fun s => cell_step (blk_cell HT2.out rfl) s.2
 have u14 : ∀ s : WStep W2, s.1.cell? ⟨T2, 4, none⟩ = some (.string m) := fun s => cell_step (blk_cell HT2.out rfl) s.2
 have u15 : ∀ s : WStep W2, s.1.cell? ⟨T2, 5, none⟩ = some (.string p.1) := fun s => cell_step (blk_cell HT2.out rfl) s.2
 have ul0 : ∀ s : WStep W2, T1 < s.1.heap.size := fun s => Nat.lt_of_lt_of_le (blk_lt HT1B.out) s.2.size
 have ul1 : ∀ s : WStep W2, T2 < s.1.heap.size := fun s => Nat.lt_of_lt_of_le (blk_lt HT2.out) s.2.size
 have CX := Lib.hid (CC.out _ HB.out)
 have CY := Lib.hid (CD.out _ HB.out)
 refine wp_region_lock (by kernel_rfl) (by kernel_rfl) ?_
 repeat (first | (refine WQ.skip rfl rfl rfl rfl ?_; simp only [Act.put, sl1, sl2, sl3, sl4]) | ((first | (apply WQ.val; (exact rfl)) | (apply WQ.valg; (exact rfl); (exact rfl); (exact rfl))); (intro w9 hw9; obtain ⟨s9, rfl⟩ := hw9; simp [go_sem, u00, u01, u02, u03, u04, u05, u10, u11, u12, u13, u14, u15, ul0, ul1, hne]; first | done | exact rfl | (with_reducible exact CX.out s9) | (with_reducible exact CY.out s9)); simp only [Act.put, sl1, sl2, sl3, sl4]))
 refine WQ.fin fun W4 hbn => ?_
 have HT1C := Lib.hid (blk_step HT1B.out hbn); have HT2C := Lib.hid (blk_step HT2.out hbn); have HB9 := Lib.hid (bStep HB.out hbn); clear HB hbn HT1B HT2 CX CY; have HB := HB9; clear HB9
 clear u00 u01 u02 u03 u04 u05 u10 u11 u12 u13 u14 u15 ul0 ul1
 have cv := cell_step HCV.out.1 HB.out; have cz := cell_step HCV.out.2.1 HB.out; have ln := Nat.lt_of_lt_of_le HCV.out.2.2.2 HB.out.size
 go_upto_region 15 with fail
 go_quiet (fail)
 go_wp2_with ((first | (go_at_call 56; refine (CV.out _ HB.out).mono ?_) | (go_at_call 59; refine (CB.out _ HB.out).mono ?_) | (go_at_call 39; refine (CN.out _).mono ?_) | (go_at_call 67; refine (CM.out _ HB.out).mono ?_) | (go_at_call 60; refine (CT.out _).mono ?_) | (go_at_call 68; refine (CW.out _ HB.out).mono ?_) | (go_at_call 57; refine (CF.out _ HB.out).mono ?_) | (go_at_call 17; refine (CL.out _ HB.out).mono ?_)); rintro e w1 ⟨rfl, hbn⟩; have HB9 := Lib.hid (bStep HB.out hbn); clear HB hbn; have HB := HB9; clear HB9)
 exact bodyPost_ret (v := .int .i64 11) (by simp only [results, Tryz.results55]; go_simp) rfl ⟨rfl, H.out.stay (bStep HB.out (by repeat' (first | exact Below.refl _ _ | assumption | apply bDrewN | apply bDrew | apply bAlloc | (refine bSet ?_ ?_ _) | (refine bStep ?_ (by assumption)) | omega | (simp <;> omega))))⟩
set_option maxHeartbeats 4000000 in
set_option maxRecDepth 20000 in
theorem Move_9 {B R : Nat} {a : RegA} {g : RegS} {vb vp : Value} {w : World} (h : RegV B R vb a g vp w) (ho : OkA a) (hG : Glob0 w) (b t : Int) (m to : ByteArray) (hs : m.size ≤ 1000000 ∧ to.size ≤ 1000000) (hb : 0 ≤ b ∧ b < a.bks.length) (hv : modB m = true ∧ nameB to = true ∧ timeB t = true) (p q : ByteArray × List Ent) (hp : a.ps[whereA m a]? = some p) (hq : a.ps[findA to a]? = some q) (h6 : whereA m a ≠ findA to a) (h7 : canP p.1 (lf p) (takeE t m to) = true) (h8 : canP q.1 (lf q) (bringE t m p.1) = true) (h9 : ¬ 500 ≤ p.2.length) (h10 : 500 ≤ q.2.length) :
  Calls Tryz.prog 55 #[.pointer (some ⟨R, 0, none⟩), .int .i64 b, .int .i64 t, .string m, .string to] w fun en w' => en = .returned (.int .i64 (moveA a b t m to).1) ∧ RegN B R vb (moveA a b t m to).2 g vp w w' := by
 rw [show moveA a b t m to = (11, a) from by rw [moveA_4 hb hv hp hq]; rw [if_neg (fun c => by rcases c with c | c | c; exact h6 c; rw [h7] at c; cases c; rw [h8] at c; cases c), if_pos (by omega)]]
 dsimp only
 have hok := h.ok ho.toOkB
 have hbks : g.bks = a.bks := by rw [← h.abs]; rfl
 have hlen := h.len
 have hnp := ho.np
 have hla : leftR g b = leftA a b := by rw [left_abs, h.abs]
 have H := Lib.hid h
 obtain ⟨pa, cp, hvp⟩ := h.ra.vpS
 subst hvp
 have hms : ∀ q ∈ g.qs, q.life.ms.length ≤ 1000000 := fun q hq => by
  obtain ⟨i, hi⟩ := List.getElem?_of_mem hq
  have h9 := (ho.toOkB.life (List.mem_of_getElem? (h.put hi))).2.1
  rw [(h.lf q hq).1]
  exact Nat.le_trans h9 (by omega)
 have CV := Lib.hid (fun W (hW : Below w.heap.size w W) => valid_any (h.ra.step hW) hok.pt.1)
 have CB := Lib.hid (fun W (hW : Below w.heap.size w W) => book_any (h.ra.step hW) b)
 have CN := Lib.hid (fun W => isName_any to W (by omega))
 have CM := Lib.hid (fun W (hW : Below w.heap.size w W) => isModule_any m W hs.1 (gstep hG hW))
 have CT := Lib.hid (fun W => isTime_any t W)
 have CW := Lib.hid (fun W (hW : Below w.heap.size w W) => where_any (h.ra.step hW) m (by omega) hms)
 have CF := Lib.hid (fun W (hW : Below w.heap.size w W) => find_any (h.ra.step hW) to (by omega))
 have CL := Lib.hid (fun W (hW : Below w.heap.size w W) => Left_any (h.ra.step hW) hok b)
 rw [hbks] at CB
 rw [hla] at CL
 rw [h.find] at CF
 rw [h.whr] at CW
 have HG := Lib.hid hG
 have HO := Lib.hid ho
 have HLN := Lib.hid hlen
 have HS := Lib.hid hs
 have HB := Lib.hid (Below.refl w.heap.size w)
 generalize (cutS m).1 = o1 at *
 clear hok hbks hnp hla hG hs hlen hms
 rw [decide_eq_true hb] at CB
 rw [hv.1] at CM
 rw [hv.2.1] at CN
 rw [hv.2.2] at CT
 have h4 : whereA m a < a.ps.length := (List.getElem?_eq_some_iff.1 hp).1
 have h5 : findA to a < a.ps.length := (List.getElem?_eq_some_iff.1 hq).1
 obtain ⟨PB, cp2, cur, evp, hPB, hbP, -⟩ := h.ra.packs (by rintro c; have h9 := HLN.out; rw [c] at h9; simp at h9; omega)
 cases evp
 rw [ptr_yes (by have := HLN.out; omega)] at CW
 rw [ptr_yes (by have := HLN.out; omega)] at CF
 obtain ⟨x, hx, e1, e2, e3, e4⟩ := h.get hp
 obtain ⟨y, hy, f1, f2, f3, f4⟩ := h.get hq
 obtain ⟨pv, cv, hve⟩ := h.ra.veS (List.mem_of_getElem? hx)
 obtain ⟨pz, cz, hvz⟩ := h.ra.veS (List.mem_of_getElem? hy)
 have hlx := h.ra.life rfl hx
 have hly := h.ra.life rfl hy
 have hcx := hlx.2.2
 rw [hve, e2] at hcx
 have hcy := hly.2.2
 rw [hvz, f2] at hcy
 have hcn := hlx.1.open1.1
 rw [e1] at hcn
 have HCV := Lib.hid (And.intro hcx (And.intro hcy (And.intro hcn hlx.1.lt)))
 have hbx := HO.out.toOkB.life (List.mem_of_getElem? hp)
 have hby := HO.out.toOkB.life (List.mem_of_getElem? hq)
 have CC : ∀ W, Below w.heap.size w W → ∀ s : WStep W, Calls Tryz.prog 43 #[.pointer (some ⟨PB, whereA m a * 20, none⟩), (.agg #[.int .i64 6, .int .i64 t, .int .i64 0, .int .i64 0, .string m, .string to])] s.1 fun e w' => e = .returned (.bool (canP p.1 (lf p) (takeE t m to))) ∧ ∃ t : WStep W, w' = t.1 := fun W hW s => by
  have h9 := step_call s (can_any ((hlx.1.step hW).step s.2) (takeE t m to) ⟨show (1 : Int) ≤ 6 by decide, show (6 : Int) ≤ 9 by decide⟩ (by rw [e3]; have := hbx.2.1; omega) (by rw [e3]; have := hbx.2.2; omega))
  rw [e1, e3] at h9
  exact h9
 have CD : ∀ W, Below w.heap.size w W → ∀ s : WStep W, Calls Tryz.prog 43 #[.pointer (some ⟨PB, findA to a * 20, none⟩), (.agg #[.int .i64 5, .int .i64 t, .int .i64 0, .int .i64 0, .string m, .string p.1])] s.1 fun e w' => e = .returned (.bool (canP q.1 (lf q) (bringE t m p.1))) ∧ ∃ t : WStep W, w' = t.1 := fun W hW s => by
  have h9 := step_call s (can_any ((hly.1.step hW).step s.2) (bringE t m p.1) ⟨show (1 : Int) ≤ 5 by decide, show (5 : Int) ≤ 9 by decide⟩ (by rw [f3]; have := hby.2.1; omega) (by rw [f3]; have := hby.2.2; omega))
  rw [f1, f3] at h9
  exact h9
 have hnE : ∀ W, Below w.heap.size w W → ∀ s : WStep W, (binOp .eql 112 (.pointer (some ⟨PB, whereA m a * 20, none⟩)) (.pointer (some ⟨PB, findA to a * 20, none⟩))).run Tryz.prog s.1 = .ok (.bool false) s.1 := fun W hW s => ptr_other (blk_step (blk_step hbP hW) s.2) h6
 have HNE := Lib.hid hnE
 clear hnE
 rw [h7] at CC
 rw [h8] at CD
 have CC := Lib.hid CC
 have CD := Lib.hid CD
 have hx5 : (500 : Int) ≤ max (p.2.length : Int) (q.2.length : Int) := by omega
 have hx6 : (500 : Int) ≤ (max p.2.length q.2.length : Nat) := by omega
 generalize p.2.length = L1 at *
 generalize q.2.length = L2 at *
 generalize whereA m a = i at *
 generalize findA to a = k at *
 clear hb hv h4 h5 hp hq hx hy e1 e2 e3 e4 f1 f2 f3 f4 hve hvz hlx hly hcx hcy hcn hbx hby hbP hPB h6 h7 h8 h9 h10
 clear h ho
 go_enter Tryz.func55, Tryz.ntmps55
 go_upto_region 12 with (first | ((first | (go_at_call 56; refine (CV.out _ HB.out).mono ?_) | (go_at_call 59; refine (CB.out _ HB.out).mono ?_) | (go_at_call 39; refine (CN.out _).mono ?_) | (go_at_call 67; refine (CM.out _ HB.out).mono ?_) | (go_at_call 60; refine (CT.out _).mono ?_) | (go_at_call 68; refine (CW.out _ HB.out).mono ?_) | (go_at_call 17; refine (CL.out _ HB.out).mono ?_)); rintro e w1 ⟨rfl, hbn⟩; have HB9 := Lib.hid (bStep HB.out hbn); clear HB hbn; have HB := HB9; clear HB9) | (go_at_call 57; refine (CF.out _ HB.out).mono ?_; rintro e w1 ⟨rfl, hbn⟩; have HB9 := Lib.hid (bStep HB.out hbn); clear HB hbn; have HB := HB9; clear HB9; have cn := cell_step HCV.out.2.2.1 HB.out; have ln := Nat.lt_of_lt_of_le HCV.out.2.2.2 HB.out.size))
 have HT1 := Lib.hid (blk_new w1 (.cells #[.int .i64 6, .int .i64 t, .int .i64 0, .int .i64 0, .string m, .string to] 29))
 have HB9 := Lib.hid (bStep HB.out (bAl (W := w1) (o := (.cells #[.int .i64 6, .int .i64 t, .int .i64 0, .int .i64 0, .string m, .string to] 29))))
 clear HB cn ln
 have HB := HB9
 clear HB9
 generalize w1.alloc (.cells #[.int .i64 6, .int .i64 t, .int .i64 0, .int .i64 0, .string m, .string to] 29) = W1 at *
 generalize w1.heap.size = T1 at *
 have cn := cell_step HCV.out.2.2.1 HB.out; have ln := Nat.lt_of_lt_of_le HCV.out.2.2.2 HB.out.size
 go_upto_region 13 with fail
 have HT1B := Lib.hid (blk_step HT1.out (bAl (W := W1) (o := (.cells #[.int .i64 5, .int .i64 t, .int .i64 0, .int .i64 0, .string m, .string p.1] 29))))
 have HT2 := Lib.hid (blk_new W1 (.cells #[.int .i64 5, .int .i64 t, .int .i64 0, .int .i64 0, .string m, .string p.1] 29))
 have HB9 := Lib.hid (bStep HB.out (bAl (W := W1) (o := (.cells #[.int .i64 5, .int .i64 t, .int .i64 0, .int .i64 0, .string m, .string p.1] 29))))
 clear HB cn ln HT1
 have HB := HB9
 clear HB9
 generalize W1.alloc (.cells #[.int .i64 5, .int .i64 t, .int .i64 0, .int .i64 0, .string m, .string p.1] 29) = W2 at *
 generalize W1.heap.size = T2 at *
 have hne := HNE.out _ HB.out
 have u00 : ∀ s : WStep W2, s.1.cell? ⟨T1, 0, none⟩ = some (.int .i64 6) := fun s => cell_step (blk_cell HT1B.out rfl) s.2
 have u01 : ∀ s : WStep W2, s.1.cell? ⟨T1, 1, none⟩ = some (.int .i64 t) := fun s => cell_step (blk_cell HT1B.out rfl) s.2
 have u02 : ∀ s : WStep W2, s.1.cell? ⟨T1, 2, none⟩ = some (.int .i64 0) := fun s => cell_step (blk_cell HT1B.out rfl) s.2
 have u03 : ∀ s : WStep W2, s.1.cell? ⟨T1, 3, none⟩ = some (.int .i64 0) := fun s => cell_step (blk_cell HT1B.out rfl) s.2
 have u04 : ∀ s : WStep W2, s.1.cell? ⟨T1, 4, none⟩ = some (.string m) := fun s => cell_step (blk_cell HT1B.out rfl) s.2
 have u05 : ∀ s : WStep W2, s.1.cell? ⟨T1, 5, none⟩ = some (.string to) := fun s => cell_step (blk_cell HT1B.out rfl) s.2
 have u10 : ∀ s : WStep W2, s.1.cell? ⟨T2, 0, none⟩ = some (.int .i64 5) := fun s => cell_step (blk_cell HT2.out rfl) s.2
 have u11 : ∀ s : WStep W2, s.1.cell? ⟨T2, 1, none⟩ = some (.int .i64 t) := fun s => cell_step (blk_cell HT2.out rfl) s.2
 have u12 : ∀ s : WStep W2, s.1.cell? ⟨T2, 2, none⟩ = some (.int .i64 0) := fun s => cell_step (blk_cell HT2.out rfl) s.2
 have u13 : ∀ s : WStep W2, s.1.cell? ⟨T2, 3, none⟩ = some (.int .i64 0) := fun s => cell_step (blk_cell HT2.out rfl) s.2
 have u14 : ∀ s : WStep W2, s.1.cell? ⟨T2, 4, none⟩ = some (.string m) := fun s => cell_step (blk_cell HT2.out rfl) s.2
 have u15 : ∀ s : WStep W2, s.1.cell? ⟨T2, 5, none⟩ = some (.string p.1) := fun s => cell_step (blk_cell HT2.out rfl) s.2
 have ul0 : ∀ s : WStep W2, T1 < s.1.heap.size := fun s => Nat.lt_of_lt_of_le (blk_lt HT1B.out) s.2.size
 have ul1 : ∀ s : WStep W2, T2 < s.1.heap.size := fun s => Nat.lt_of_lt_of_le (blk_lt HT2.out) s.2.size
 have CX := Lib.hid (CC.out _ HB.out)
 have CY := Lib.hid (CD.out _ HB.out)
 refine wp_region_lock (by kernel_rfl) (by kernel_rfl) ?_
 repeat (first | (refine WQ.skip rfl rfl rfl rfl ?_; simp only [Act.put, sl1, sl2, sl3, sl4]) | ((first | (apply WQ.val; (exact rfl)) | (apply WQ.valg; (exact rfl); (exact rfl); (exact rfl))); (intro w9 hw9; obtain ⟨s9, rfl⟩ := hw9; simp [go_sem, u00, u01, u02, u03, u04, u05, u10, u11, u12, u13, u14, u15, ul0, ul1, hne]; first | done | exact rfl | (with_reducible exact CX.out s9) | (with_reducible exact CY.out s9)); simp only [Act.put, sl1, sl2, sl3, sl4]))
 refine WQ.fin fun W4 hbn => ?_
 have HT1C := Lib.hid (blk_step HT1B.out hbn); have HT2C := Lib.hid (blk_step HT2.out hbn); have HB9 := Lib.hid (bStep HB.out hbn); clear HB hbn HT1B HT2 CX CY; have HB := HB9; clear HB9
 clear u00 u01 u02 u03 u04 u05 u10 u11 u12 u13 u14 u15 ul0 ul1
 have cv := cell_step HCV.out.1 HB.out; have cz := cell_step HCV.out.2.1 HB.out; have ln := Nat.lt_of_lt_of_le HCV.out.2.2.2 HB.out.size
 go_upto_region 15 with fail
 go_quiet (fail)
 go_wp2_with ((first | (go_at_call 56; refine (CV.out _ HB.out).mono ?_) | (go_at_call 59; refine (CB.out _ HB.out).mono ?_) | (go_at_call 39; refine (CN.out _).mono ?_) | (go_at_call 67; refine (CM.out _ HB.out).mono ?_) | (go_at_call 60; refine (CT.out _).mono ?_) | (go_at_call 68; refine (CW.out _ HB.out).mono ?_) | (go_at_call 57; refine (CF.out _ HB.out).mono ?_) | (go_at_call 17; refine (CL.out _ HB.out).mono ?_)); rintro e w1 ⟨rfl, hbn⟩; have HB9 := Lib.hid (bStep HB.out hbn); clear HB hbn; have HB := HB9; clear HB9)
 exact bodyPost_ret (v := .int .i64 11) (by simp only [results, Tryz.results55]; go_simp) rfl ⟨rfl, H.out.stay (bStep HB.out (by repeat' (first | exact Below.refl _ _ | assumption | apply bDrewN | apply bDrew | apply bAlloc | (refine bSet ?_ ?_ _) | (refine bStep ?_ (by assumption)) | omega | (simp <;> omega))))⟩
set_option maxHeartbeats 4000000 in
set_option maxRecDepth 20000 in
theorem Move_A {B R : Nat} {a : RegA} {g : RegS} {vb vp : Value} {w : World} (h : RegV B R vb a g vp w) (ho : OkA a) (hG : Glob0 w) (b t : Int) (m to : ByteArray) (hs : m.size ≤ 1000000 ∧ to.size ≤ 1000000) (hb : 0 ≤ b ∧ b < a.bks.length) (hv : modB m = true ∧ nameB to = true ∧ timeB t = true) (p q : ByteArray × List Ent) (hp : a.ps[whereA m a]? = some p) (hq : a.ps[findA to a]? = some q) (h6 : whereA m a ≠ findA to a) (h7 : canP p.1 (lf p) (takeE t m to) = true) (h8 : canP q.1 (lf q) (bringE t m p.1) = true) (h9 : ¬ (500 ≤ p.2.length ∨ 500 ≤ q.2.length)) (h10 : leftA a b < 2) :
  Calls Tryz.prog 55 #[.pointer (some ⟨R, 0, none⟩), .int .i64 b, .int .i64 t, .string m, .string to] w fun en w' => en = .returned (.int .i64 (moveA a b t m to).1) ∧ RegN B R vb (moveA a b t m to).2 g vp w w' := by
 rw [show moveA a b t m to = (4, a) from by rw [moveA_4 hb hv hp hq]; rw [if_neg (fun c => by rcases c with c | c | c; exact h6 c; rw [h7] at c; cases c; rw [h8] at c; cases c), if_neg h9, if_pos h10]]
 dsimp only
 have hok := h.ok ho.toOkB
 have hbks : g.bks = a.bks := by rw [← h.abs]; rfl
 have hlen := h.len
 have hnp := ho.np
 have hla : leftR g b = leftA a b := by rw [left_abs, h.abs]
 have H := Lib.hid h
 obtain ⟨pa, cp, hvp⟩ := h.ra.vpS
 subst hvp
 have hms : ∀ q ∈ g.qs, q.life.ms.length ≤ 1000000 := fun q hq => by
  obtain ⟨i, hi⟩ := List.getElem?_of_mem hq
  have h9 := (ho.toOkB.life (List.mem_of_getElem? (h.put hi))).2.1
  rw [(h.lf q hq).1]
  exact Nat.le_trans h9 (by omega)
 have CV := Lib.hid (fun W (hW : Below w.heap.size w W) => valid_any (h.ra.step hW) hok.pt.1)
 have CB := Lib.hid (fun W (hW : Below w.heap.size w W) => book_any (h.ra.step hW) b)
 have CN := Lib.hid (fun W => isName_any to W (by omega))
 have CM := Lib.hid (fun W (hW : Below w.heap.size w W) => isModule_any m W hs.1 (gstep hG hW))
 have CT := Lib.hid (fun W => isTime_any t W)
 have CW := Lib.hid (fun W (hW : Below w.heap.size w W) => where_any (h.ra.step hW) m (by omega) hms)
 have CF := Lib.hid (fun W (hW : Below w.heap.size w W) => find_any (h.ra.step hW) to (by omega))
 have CL := Lib.hid (fun W (hW : Below w.heap.size w W) => Left_any (h.ra.step hW) hok b)
 rw [hbks] at CB
 rw [hla] at CL
 rw [h.find] at CF
 rw [h.whr] at CW
 have HG := Lib.hid hG
 have HO := Lib.hid ho
 have HLN := Lib.hid hlen
 have HS := Lib.hid hs
 have HB := Lib.hid (Below.refl w.heap.size w)
 generalize (cutS m).1 = o1 at *
 clear hok hbks hnp hla hG hs hlen hms
 rw [decide_eq_true hb] at CB
 rw [hv.1] at CM
 rw [hv.2.1] at CN
 rw [hv.2.2] at CT
 have h4 : whereA m a < a.ps.length := (List.getElem?_eq_some_iff.1 hp).1
 have h5 : findA to a < a.ps.length := (List.getElem?_eq_some_iff.1 hq).1
 obtain ⟨PB, cp2, cur, evp, hPB, hbP, -⟩ := h.ra.packs (by rintro c; have h9 := HLN.out; rw [c] at h9; simp at h9; omega)
 cases evp
 rw [ptr_yes (by have := HLN.out; omega)] at CW
 rw [ptr_yes (by have := HLN.out; omega)] at CF
 obtain ⟨x, hx, e1, e2, e3, e4⟩ := h.get hp
 obtain ⟨y, hy, f1, f2, f3, f4⟩ := h.get hq
 obtain ⟨pv, cv, hve⟩ := h.ra.veS (List.mem_of_getElem? hx)
 obtain ⟨pz, cz, hvz⟩ := h.ra.veS (List.mem_of_getElem? hy)
 have hlx := h.ra.life rfl hx
 have hly := h.ra.life rfl hy
 have hcx := hlx.2.2
 rw [hve, e2] at hcx
 have hcy := hly.2.2
 rw [hvz, f2] at hcy
 have hcn := hlx.1.open1.1
 rw [e1] at hcn
 have HCV := Lib.hid (And.intro hcx (And.intro hcy (And.intro hcn hlx.1.lt)))
 have hbx := HO.out.toOkB.life (List.mem_of_getElem? hp)
 have hby := HO.out.toOkB.life (List.mem_of_getElem? hq)
 have CC : ∀ W, Below w.heap.size w W → ∀ s : WStep W, Calls Tryz.prog 43 #[.pointer (some ⟨PB, whereA m a * 20, none⟩), (.agg #[.int .i64 6, .int .i64 t, .int .i64 0, .int .i64 0, .string m, .string to])] s.1 fun e w' => e = .returned (.bool (canP p.1 (lf p) (takeE t m to))) ∧ ∃ t : WStep W, w' = t.1 := fun W hW s => by
  have h9 := step_call s (can_any ((hlx.1.step hW).step s.2) (takeE t m to) ⟨show (1 : Int) ≤ 6 by decide, show (6 : Int) ≤ 9 by decide⟩ (by rw [e3]; have := hbx.2.1; omega) (by rw [e3]; have := hbx.2.2; omega))
  rw [e1, e3] at h9
  exact h9
 have CD : ∀ W, Below w.heap.size w W → ∀ s : WStep W, Calls Tryz.prog 43 #[.pointer (some ⟨PB, findA to a * 20, none⟩), (.agg #[.int .i64 5, .int .i64 t, .int .i64 0, .int .i64 0, .string m, .string p.1])] s.1 fun e w' => e = .returned (.bool (canP q.1 (lf q) (bringE t m p.1))) ∧ ∃ t : WStep W, w' = t.1 := fun W hW s => by
  have h9 := step_call s (can_any ((hly.1.step hW).step s.2) (bringE t m p.1) ⟨show (1 : Int) ≤ 5 by decide, show (5 : Int) ≤ 9 by decide⟩ (by rw [f3]; have := hby.2.1; omega) (by rw [f3]; have := hby.2.2; omega))
  rw [f1, f3] at h9
  exact h9
 have hnE : ∀ W, Below w.heap.size w W → ∀ s : WStep W, (binOp .eql 112 (.pointer (some ⟨PB, whereA m a * 20, none⟩)) (.pointer (some ⟨PB, findA to a * 20, none⟩))).run Tryz.prog s.1 = .ok (.bool false) s.1 := fun W hW s => ptr_other (blk_step (blk_step hbP hW) s.2) h6
 have HNE := Lib.hid hnE
 clear hnE
 rw [h7] at CC
 rw [h8] at CD
 have CC := Lib.hid CC
 have CD := Lib.hid CD
 have hx5 : ¬ (500 : Int) ≤ max (p.2.length : Int) (q.2.length : Int) := by omega
 have hx6 : ¬ (500 : Int) ≤ (max p.2.length q.2.length : Nat) := by omega
 have hx7 : max (p.2.length : Int) (q.2.length : Int) < 500 := by omega
 generalize p.2.length = L1 at *
 generalize q.2.length = L2 at *
 generalize leftA a b = L3 at *
 generalize whereA m a = i at *
 generalize findA to a = k at *
 clear hb hv h4 h5 hp hq hx hy e1 e2 e3 e4 f1 f2 f3 f4 hve hvz hlx hly hcx hcy hcn hbx hby hbP hPB h6 h7 h8 h9
 clear h ho
 go_enter Tryz.func55, Tryz.ntmps55
 go_upto_region 12 with (first | ((first | (go_at_call 56; refine (CV.out _ HB.out).mono ?_) | (go_at_call 59; refine (CB.out _ HB.out).mono ?_) | (go_at_call 39; refine (CN.out _).mono ?_) | (go_at_call 67; refine (CM.out _ HB.out).mono ?_) | (go_at_call 60; refine (CT.out _).mono ?_) | (go_at_call 68; refine (CW.out _ HB.out).mono ?_) | (go_at_call 17; refine (CL.out _ HB.out).mono ?_)); rintro e w1 ⟨rfl, hbn⟩; have HB9 := Lib.hid (bStep HB.out hbn); clear HB hbn; have HB := HB9; clear HB9) | (go_at_call 57; refine (CF.out _ HB.out).mono ?_; rintro e w1 ⟨rfl, hbn⟩; have HB9 := Lib.hid (bStep HB.out hbn); clear HB hbn; have HB := HB9; clear HB9; have cn := cell_step HCV.out.2.2.1 HB.out; have ln := Nat.lt_of_lt_of_le HCV.out.2.2.2 HB.out.size))
 have HT1 := Lib.hid (blk_new w1 (.cells #[.int .i64 6, .int .i64 t, .int .i64 0, .int .i64 0, .string m, .string to] 29))
 have HB9 := Lib.hid (bStep HB.out (bAl (W := w1) (o := (.cells #[.int .i64 6, .int .i64 t, .int .i64 0, .int .i64 0, .string m, .string to] 29))))
 clear HB cn ln
 have HB := HB9
 clear HB9
 generalize w1.alloc (.cells #[.int .i64 6, .int .i64 t, .int .i64 0, .int .i64 0, .string m, .string to] 29) = W1 at *
 generalize w1.heap.size = T1 at *
 have cn := cell_step HCV.out.2.2.1 HB.out; have ln := Nat.lt_of_lt_of_le HCV.out.2.2.2 HB.out.size
 go_upto_region 13 with fail
 have HT1B := Lib.hid (blk_step HT1.out (bAl (W := W1) (o := (.cells #[.int .i64 5, .int .i64 t, .int .i64 0, .int .i64 0, .string m, .string p.1] 29))))
 have HT2 := Lib.hid (blk_new W1 (.cells #[.int .i64 5, .int .i64 t, .int .i64 0, .int .i64 0, .string m, .string p.1] 29))
 have HB9 := Lib.hid (bStep HB.out (bAl (W := W1) (o := (.cells #[.int .i64 5, .int .i64 t, .int .i64 0, .int .i64 0, .string m, .string p.1] 29))))
 clear HB cn ln HT1
 have HB := HB9
 clear HB9
 generalize W1.alloc (.cells #[.int .i64 5, .int .i64 t, .int .i64 0, .int .i64 0, .string m, .string p.1] 29) = W2 at *
 generalize W1.heap.size = T2 at *
 have hne := HNE.out _ HB.out
 have u00 : ∀ s : WStep W2, s.1.cell? ⟨T1, 0, none⟩ = some (.int .i64 6) := fun s => cell_step (blk_cell HT1B.out rfl) s.2
 have u01 : ∀ s : WStep W2, s.1.cell? ⟨T1, 1, none⟩ = some (.int .i64 t) := fun s => cell_step (blk_cell HT1B.out rfl) s.2
 have u02 : ∀ s : WStep W2, s.1.cell? ⟨T1, 2, none⟩ = some (.int .i64 0) := fun s => cell_step (blk_cell HT1B.out rfl) s.2
 have u03 : ∀ s : WStep W2, s.1.cell? ⟨T1, 3, none⟩ = some (.int .i64 0) := fun s => cell_step (blk_cell HT1B.out rfl) s.2
 have u04 : ∀ s : WStep W2, s.1.cell? ⟨T1, 4, none⟩ = some (.string m) := fun s => cell_step (blk_cell HT1B.out rfl) s.2
 have u05 : ∀ s : WStep W2, s.1.cell? ⟨T1, 5, none⟩ = some (.string to) := fun s => cell_step (blk_cell HT1B.out rfl) s.2
 have u10 : ∀ s : WStep W2, s.1.cell? ⟨T2, 0, none⟩ = some (.int .i64 5) := fun s => cell_step (blk_cell HT2.out rfl) s.2
 have u11 : ∀ s : WStep W2, s.1.cell? ⟨T2, 1, none⟩ = some (.int .i64 t) := fun s => cell_step (blk_cell HT2.out rfl) s.2
 have u12 : ∀ s : WStep W2, s.1.cell? ⟨T2, 2, none⟩ = some (.int .i64 0) := fun s => cell_step (blk_cell HT2.out rfl) s.2
 have u13 : ∀ s : WStep W2, s.1.cell? ⟨T2, 3, none⟩ = some (.int .i64 0) := fun s => cell_step (blk_cell HT2.out rfl) s.2
 have u14 : ∀ s : WStep W2, s.1.cell? ⟨T2, 4, none⟩ = some (.string m) := fun s => cell_step (blk_cell HT2.out rfl) s.2
 have u15 : ∀ s : WStep W2, s.1.cell? ⟨T2, 5, none⟩ = some (.string p.1) := fun s => cell_step (blk_cell HT2.out rfl) s.2
 have ul0 : ∀ s : WStep W2, T1 < s.1.heap.size := fun s => Nat.lt_of_lt_of_le (blk_lt HT1B.out) s.2.size
 have ul1 : ∀ s : WStep W2, T2 < s.1.heap.size := fun s => Nat.lt_of_lt_of_le (blk_lt HT2.out) s.2.size
 have CX := Lib.hid (CC.out _ HB.out)
 have CY := Lib.hid (CD.out _ HB.out)
 refine wp_region_lock (by kernel_rfl) (by kernel_rfl) ?_
 repeat (first | (refine WQ.skip rfl rfl rfl rfl ?_; simp only [Act.put, sl1, sl2, sl3, sl4]) | ((first | (apply WQ.val; (exact rfl)) | (apply WQ.valg; (exact rfl); (exact rfl); (exact rfl))); (intro w9 hw9; obtain ⟨s9, rfl⟩ := hw9; simp [go_sem, u00, u01, u02, u03, u04, u05, u10, u11, u12, u13, u14, u15, ul0, ul1, hne]; first | done | exact rfl | (with_reducible exact CX.out s9) | (with_reducible exact CY.out s9)); simp only [Act.put, sl1, sl2, sl3, sl4]))
 refine WQ.fin fun W4 hbn => ?_
 have HT1C := Lib.hid (blk_step HT1B.out hbn); have HT2C := Lib.hid (blk_step HT2.out hbn); have HB9 := Lib.hid (bStep HB.out hbn); clear HB hbn HT1B HT2 CX CY; have HB := HB9; clear HB9
 clear u00 u01 u02 u03 u04 u05 u10 u11 u12 u13 u14 u15 ul0 ul1
 have cv := cell_step HCV.out.1 HB.out; have cz := cell_step HCV.out.2.1 HB.out; have ln := Nat.lt_of_lt_of_le HCV.out.2.2.2 HB.out.size
 go_upto_region 15 with fail
 go_quiet (fail)
 have HB9 : Hid (Below w.heap.size w (W4.drewN nq)) := Lib.hid (bStep HB.out (by repeat' (first | exact Below.refl _ _ | assumption | apply bDrewN | apply bDrew | apply bAlloc | (refine bSet ?_ ?_ _) | (refine bStep ?_ (by assumption)) | omega | (simp <;> omega)))); have HT1D : Hid ((W4.drewN nq).heap[T1]? = _) := Lib.hid (blk_step HT1C.out (by repeat' (first | exact Below.refl _ _ | assumption | apply bDrewN | apply bDrew | apply bAlloc | (refine bSet ?_ ?_ _) | (refine bStep ?_ (by assumption)) | omega | (simp <;> omega)))); have HT2D : Hid ((W4.drewN nq).heap[T2]? = _) := Lib.hid (blk_step HT2C.out (by repeat' (first | exact Below.refl _ _ | assumption | apply bDrewN | apply bDrew | apply bAlloc | (refine bSet ?_ ?_ _) | (refine bStep ?_ (by assumption)) | omega | (simp <;> omega)))); clear HB HT1C HT2C cv cz ln; have HB := HB9; clear HB9; generalize W4.drewN nq = W5 at *
 go_wp2_with (go_at_call 17; refine (CL.out _ HB.out).mono ?_; rintro e w1 ⟨rfl, hbn⟩; have HT1E := Lib.hid (blk_step HT1D.out hbn); have HT2E := Lib.hid (blk_step HT2D.out hbn); have HB9 := Lib.hid (bStep HB.out hbn); clear HB hbn HT1D HT2D; have HB := HB9; clear HB9; have x0 := blk_cell (o := 0) HT1E.out rfl; have x1 := blk_cell (o := 1) HT1E.out rfl; have x2 := blk_cell (o := 2) HT1E.out rfl; have x3 := blk_cell (o := 3) HT1E.out rfl; have x4 := blk_cell (o := 4) HT1E.out rfl; have x5 := blk_cell (o := 5) HT1E.out rfl; have xl := blk_lt HT1E.out)
 exact bodyPost_ret (v := .int .i64 4) (by simp only [results, Tryz.results55]; go_simp) rfl ⟨rfl, H.out.stay HB.out⟩
set_option maxHeartbeats 4000000 in
set_option maxRecDepth 20000 in
theorem Move_B {B R : Nat} {a : RegA} {g : RegS} {vb vp : Value} {w : World} (h : RegV B R vb a g vp w) (ho : OkA a) (hG : Glob0 w) (n : Nat) (t : Int) (m to : ByteArray) (hs : m.size ≤ 1000000 ∧ to.size ≤ 1000000) (hb : 0 ≤ (n : Int) ∧ (n : Int) < a.bks.length) (hv : modB m = true ∧ nameB to = true ∧ timeB t = true) (p q : ByteArray × List Ent) (hp : a.ps[whereA m a]? = some p) (hq : a.ps[findA to a]? = some q) (h6 : whereA m a ≠ findA to a) (h7 : canP p.1 (lf p) (takeE t m to) = true) (h8 : canP q.1 (lf q) (bringE t m p.1) = true) (h9 : ¬ (500 ≤ p.2.length ∨ 500 ≤ q.2.length)) (h10 : ¬ leftA a (n : Int) < 2) :
  Calls Tryz.prog 55 #[.pointer (some ⟨R, 0, none⟩), .int .i64 (n : Int), .int .i64 t, .string m, .string to] w fun en w' => en = .returned (.int .i64 (moveA a (n : Int) t m to).1) ∧ RegN B R vb (moveA a (n : Int) t m to).2 g vp w w' := by
 rw [show moveA a (n : Int) t m to = (0, putA (putA a n (whereA m a) (takeE t m to)) n (findA to a) (bringE t m p.1)) from by rw [moveA_4 hb hv hp hq]; rw [if_neg (fun c => by rcases c with c | c | c; exact h6 c; rw [h7] at c; cases c; rw [h8] at c; cases c), if_neg h9, if_neg h10, Int.toNat_natCast]]
 dsimp only
 have hok := h.ok ho.toOkB
 have hbks : g.bks = a.bks := by rw [← h.abs]; rfl
 have hlen := h.len
 have hnp := ho.np
 have hla : leftR g (n : Int) = leftA a (n : Int) := by rw [left_abs, h.abs]
 have H := Lib.hid h
 obtain ⟨pa, cp, hvp⟩ := h.ra.vpS
 subst hvp
 have hms : ∀ q ∈ g.qs, q.life.ms.length ≤ 1000000 := fun q hq => by
  obtain ⟨i, hi⟩ := List.getElem?_of_mem hq
  have h9 := (ho.toOkB.life (List.mem_of_getElem? (h.put hi))).2.1
  rw [(h.lf q hq).1]
  exact Nat.le_trans h9 (by omega)
 have CV := Lib.hid (fun W (hW : Below w.heap.size w W) => valid_any (h.ra.step hW) hok.pt.1)
 have CB := Lib.hid (fun W (hW : Below w.heap.size w W) => book_any (h.ra.step hW) (n : Int))
 have CN := Lib.hid (fun W => isName_any to W (by omega))
 have CM := Lib.hid (fun W (hW : Below w.heap.size w W) => isModule_any m W hs.1 (gstep hG hW))
 have CT := Lib.hid (fun W => isTime_any t W)
 have CW := Lib.hid (fun W (hW : Below w.heap.size w W) => where_any (h.ra.step hW) m (by omega) hms)
 have CF := Lib.hid (fun W (hW : Below w.heap.size w W) => find_any (h.ra.step hW) to (by omega))
 have CL := Lib.hid (fun W (hW : Below w.heap.size w W) => Left_any (h.ra.step hW) hok (n : Int))
 rw [hbks] at CB
 rw [hla] at CL
 rw [h.find] at CF
 rw [h.whr] at CW
 have HG := Lib.hid hG
 have HO := Lib.hid ho
 have HLN := Lib.hid hlen
 have HS := Lib.hid hs
 have HB := Lib.hid (Below.refl w.heap.size w)
 generalize (cutS m).1 = o1 at *
 clear hok hbks hnp hla hG hs hlen hms
 rw [decide_eq_true hb] at CB
 rw [hv.1] at CM
 rw [hv.2.1] at CN
 rw [hv.2.2] at CT
 have h4 : whereA m a < a.ps.length := (List.getElem?_eq_some_iff.1 hp).1
 have h5 : findA to a < a.ps.length := (List.getElem?_eq_some_iff.1 hq).1
 obtain ⟨PB, cp2, cur, evp, hPB, hbP, -⟩ := h.ra.packs (by rintro c; have h9 := HLN.out; rw [c] at h9; simp at h9; omega)
 cases evp
 rw [ptr_yes (by have := HLN.out; omega)] at CW
 rw [ptr_yes (by have := HLN.out; omega)] at CF
 obtain ⟨x, hx, e1, e2, e3, e4⟩ := h.get hp
 obtain ⟨y, hy, f1, f2, f3, f4⟩ := h.get hq
 obtain ⟨pv, cv, hve⟩ := h.ra.veS (List.mem_of_getElem? hx)
 obtain ⟨pz, cz, hvz⟩ := h.ra.veS (List.mem_of_getElem? hy)
 have hlx := h.ra.life rfl hx
 have hly := h.ra.life rfl hy
 have hcx := hlx.2.2
 rw [hve, e2] at hcx
 have hcy := hly.2.2
 rw [hvz, f2] at hcy
 have hcn := hlx.1.open1.1
 rw [e1] at hcn
 have HCV := Lib.hid (And.intro hcx (And.intro hcy (And.intro hcn hlx.1.lt)))
 have hbx := HO.out.toOkB.life (List.mem_of_getElem? hp)
 have hby := HO.out.toOkB.life (List.mem_of_getElem? hq)
 have CC : ∀ W, Below w.heap.size w W → ∀ s : WStep W, Calls Tryz.prog 43 #[.pointer (some ⟨PB, whereA m a * 20, none⟩), (.agg #[.int .i64 6, .int .i64 t, .int .i64 0, .int .i64 0, .string m, .string to])] s.1 fun e w' => e = .returned (.bool (canP p.1 (lf p) (takeE t m to))) ∧ ∃ t : WStep W, w' = t.1 := fun W hW s => by
  have h9 := step_call s (can_any ((hlx.1.step hW).step s.2) (takeE t m to) ⟨show (1 : Int) ≤ 6 by decide, show (6 : Int) ≤ 9 by decide⟩ (by rw [e3]; have := hbx.2.1; omega) (by rw [e3]; have := hbx.2.2; omega))
  rw [e1, e3] at h9
  exact h9
 have CD : ∀ W, Below w.heap.size w W → ∀ s : WStep W, Calls Tryz.prog 43 #[.pointer (some ⟨PB, findA to a * 20, none⟩), (.agg #[.int .i64 5, .int .i64 t, .int .i64 0, .int .i64 0, .string m, .string p.1])] s.1 fun e w' => e = .returned (.bool (canP q.1 (lf q) (bringE t m p.1))) ∧ ∃ t : WStep W, w' = t.1 := fun W hW s => by
  have h9 := step_call s (can_any ((hly.1.step hW).step s.2) (bringE t m p.1) ⟨show (1 : Int) ≤ 5 by decide, show (5 : Int) ≤ 9 by decide⟩ (by rw [f3]; have := hby.2.1; omega) (by rw [f3]; have := hby.2.2; omega))
  rw [f1, f3] at h9
  exact h9
 have hnE : ∀ W, Below w.heap.size w W → ∀ s : WStep W, (binOp .eql 112 (.pointer (some ⟨PB, whereA m a * 20, none⟩)) (.pointer (some ⟨PB, findA to a * 20, none⟩))).run Tryz.prog s.1 = .ok (.bool false) s.1 := fun W hW s => ptr_other (blk_step (blk_step hbP hW) s.2) h6
 have HNE := Lib.hid hnE
 clear hnE
 rw [h7] at CC
 rw [h8] at CD
 have CC := Lib.hid CC
 have CD := Lib.hid CD
 have hx5 : ¬ (500 : Int) ≤ max (p.2.length : Int) (q.2.length : Int) := by omega
 have hx6 : ¬ (500 : Int) ≤ (max p.2.length q.2.length : Nat) := by omega
 have hx7 : max (p.2.length : Int) (q.2.length : Int) < 500 := by omega
 have hnb : n < a.bks.length := by omega
 have hus := leftA_at hnb
 have hus1 : a.used.getD n 0 < (a.bks.getD n (0, [])).2.length := by omega
 have hA1 : OkB (putA a n (whereA m a) (takeE t m to)) := HO.out.toOkB.put hp (take_ok hv) h7 (by omega) hus1
 have hq1 : (putA a n (whereA m a) (takeE t m to)).ps[findA to a]? = some q := by rw [putA_ne (fun c => h6 c.symm)]; exact hq
 have hb1 : n < (putA a n (whereA m a) (takeE t m to)).bks.length := by rw [putA_bks.1]; exact hnb
 have hu1 : (putA a n (whereA m a) (takeE t m to)).used.getD n 0 < ((putA a n (whereA m a) (takeE t m to)).bks.getD n (0, [])).2.length := by rw [putA_bks.1, putA_used hp, getD_set]; split <;> omega
 have hnp := (HO.out.p p (List.mem_of_getElem? hp)).2.2.2
 have CE : Hid (∀ W, Below w.heap.size w W → Calls Tryz.prog 65 #[.pointer (some ⟨R, 0, none⟩), .int .i64 (n : Int), .pointer (some ⟨PB, whereA m a * 20, none⟩), (.agg #[.int .i64 6, .int .i64 t, .int .i64 0, .int .i64 0, .string m, .string to])] W fun en w' => en = .returned (.tuple #[]) ∧ RegE B R vb (putA a n (whereA m a) (takeE t m to)) g (.slice (some ⟨PB, 0, none⟩) g.qs.length cp) W w') := fun W hW => by
  obtain ⟨PB9, cp9, e9, c9⟩ := enter_viewE (H.out.step hW) HO.out.toOkB hp hnb hus1 (e := takeE t m to) (take_ok hv) h7
  cases e9
  exact c9
 have CE2 : Hid (∀ (g1 : RegS) (W : World), RegV B R vb (putA a n (whereA m a) (takeE t m to)) g1 (.slice (some ⟨PB, 0, none⟩) g.qs.length cp) W → Calls Tryz.prog 65 #[.pointer (some ⟨R, 0, none⟩), .int .i64 (n : Int), .pointer (some ⟨PB, findA to a * 20, none⟩), (.agg #[.int .i64 5, .int .i64 t, .int .i64 0, .int .i64 0, .string m, .string p.1])] W fun en w' => en = .returned (.tuple #[]) ∧ RegE B R vb (putA (putA a n (whereA m a) (takeE t m to)) n (findA to a) (bringE t m p.1)) g1 (.slice (some ⟨PB, 0, none⟩) g.qs.length cp) W w') := fun g1 W hV => by
  obtain ⟨PB9, cp9, e9, c9⟩ := enter_viewE hV hA1 hq1 hb1 hu1 (e := bringE t m p.1) (bring_ok hv.1 hnp hv.2.2) h8
  have e8 : PB = PB9 := by have h9 := congrArg Value.ownBlock e9; simpa [Value.ownBlock] using h9
  subst e8
  exact c9
 generalize p.2.length = L1 at *
 generalize q.2.length = L2 at *
 generalize leftA a (n : Int) = L3 at *
 generalize whereA m a = i at *
 generalize findA to a = k at *
 clear hb hv h4 h5 hp hq hx hy e1 e2 e3 e4 f1 f2 f3 f4 hve hvz hlx hly hcx hcy hcn hbx hby hbP hPB h6 h7 h8 h9 hnb hus hus1 hA1 hq1 hb1 hu1 hnp
 clear h ho
 go_enter Tryz.func55, Tryz.ntmps55
 go_upto_region 12 with (first | ((first | (go_at_call 56; refine (CV.out _ HB.out).mono ?_) | (go_at_call 59; refine (CB.out _ HB.out).mono ?_) | (go_at_call 39; refine (CN.out _).mono ?_) | (go_at_call 67; refine (CM.out _ HB.out).mono ?_) | (go_at_call 60; refine (CT.out _).mono ?_) | (go_at_call 68; refine (CW.out _ HB.out).mono ?_) | (go_at_call 17; refine (CL.out _ HB.out).mono ?_)); rintro e w1 ⟨rfl, hbn⟩; have HB9 := Lib.hid (bStep HB.out hbn); clear HB hbn; have HB := HB9; clear HB9) | (go_at_call 57; refine (CF.out _ HB.out).mono ?_; rintro e w1 ⟨rfl, hbn⟩; have HB9 := Lib.hid (bStep HB.out hbn); clear HB hbn; have HB := HB9; clear HB9; have cn := cell_step HCV.out.2.2.1 HB.out; have ln := Nat.lt_of_lt_of_le HCV.out.2.2.2 HB.out.size))
 have HT1 := Lib.hid (blk_new w1 (.cells #[.int .i64 6, .int .i64 t, .int .i64 0, .int .i64 0, .string m, .string to] 29))
 have HB9 := Lib.hid (bStep HB.out (bAl (W := w1) (o := (.cells #[.int .i64 6, .int .i64 t, .int .i64 0, .int .i64 0, .string m, .string to] 29))))
 clear HB cn ln
 have HB := HB9
 clear HB9
 generalize w1.alloc (.cells #[.int .i64 6, .int .i64 t, .int .i64 0, .int .i64 0, .string m, .string to] 29) = W1 at *
 generalize w1.heap.size = T1 at *
 have cn := cell_step HCV.out.2.2.1 HB.out; have ln := Nat.lt_of_lt_of_le HCV.out.2.2.2 HB.out.size
 go_upto_region 13 with fail
 have HT1B := Lib.hid (blk_step HT1.out (bAl (W := W1) (o := (.cells #[.int .i64 5, .int .i64 t, .int .i64 0, .int .i64 0, .string m, .string p.1] 29))))
 have HT2 := Lib.hid (blk_new W1 (.cells #[.int .i64 5, .int .i64 t, .int .i64 0, .int .i64 0, .string m, .string p.1] 29))
 have HB9 := Lib.hid (bStep HB.out (bAl (W := W1) (o := (.cells #[.int .i64 5, .int .i64 t, .int .i64 0, .int .i64 0, .string m, .string p.1] 29))))
 clear HB cn ln HT1
 have HB := HB9
 clear HB9
 generalize W1.alloc (.cells #[.int .i64 5, .int .i64 t, .int .i64 0, .int .i64 0, .string m, .string p.1] 29) = W2 at *
 generalize W1.heap.size = T2 at *
 have hne := HNE.out _ HB.out
 have u00 : ∀ s : WStep W2, s.1.cell? ⟨T1, 0, none⟩ = some (.int .i64 6) := fun s => cell_step (blk_cell HT1B.out rfl) s.2
 have u01 : ∀ s : WStep W2, s.1.cell? ⟨T1, 1, none⟩ = some (.int .i64 t) := fun s => cell_step (blk_cell HT1B.out rfl) s.2
 have u02 : ∀ s : WStep W2, s.1.cell? ⟨T1, 2, none⟩ = some (.int .i64 0) := fun s => cell_step (blk_cell HT1B.out rfl) s.2
 have u03 : ∀ s : WStep W2, s.1.cell? ⟨T1, 3, none⟩ = some (.int .i64 0) := fun s => cell_step (blk_cell HT1B.out rfl) s.2
 have u04 : ∀ s : WStep W2, s.1.cell? ⟨T1, 4, none⟩ = some (.string m) := fun s => cell_step (blk_cell HT1B.out rfl) s.2
 have u05 : ∀ s : WStep W2, s.1.cell? ⟨T1, 5, none⟩ = some (.string to) := fun s => cell_step (blk_cell HT1B.out rfl) s.2
 have u10 : ∀ s : WStep W2, s.1.cell? ⟨T2, 0, none⟩ = some (.int .i64 5) := fun s => cell_step (blk_cell HT2.out rfl) s.2
 have u11 : ∀ s : WStep W2, s.1.cell? ⟨T2, 1, none⟩ = some (.int .i64 t) := fun s => cell_step (blk_cell HT2.out rfl) s.2
 have u12 : ∀ s : WStep W2, s.1.cell? ⟨T2, 2, none⟩ = some (.int .i64 0) := fun s => cell_step (blk_cell HT2.out rfl) s.2
 have u13 : ∀ s : WStep W2, s.1.cell? ⟨T2, 3, none⟩ = some (.int .i64 0) := fun s => cell_step (blk_cell HT2.out rfl) s.2
 have u14 : ∀ s : WStep W2, s.1.cell? ⟨T2, 4, none⟩ = some (.string m) := fun s => cell_step (blk_cell HT2.out rfl) s.2
 have u15 : ∀ s : WStep W2, s.1.cell? ⟨T2, 5, none⟩ = some (.string p.1) := fun s => cell_step (blk_cell HT2.out rfl) s.2
 have ul0 : ∀ s : WStep W2, T1 < s.1.heap.size := fun s => Nat.lt_of_lt_of_le (blk_lt HT1B.out) s.2.size
 have ul1 : ∀ s : WStep W2, T2 < s.1.heap.size := fun s => Nat.lt_of_lt_of_le (blk_lt HT2.out) s.2.size
 have CX := Lib.hid (CC.out _ HB.out)
 have CY := Lib.hid (CD.out _ HB.out)
 refine wp_region_lock (by kernel_rfl) (by kernel_rfl) ?_
 repeat (first | (refine WQ.skip rfl rfl rfl rfl ?_; simp only [Act.put, sl1, sl2, sl3, sl4]) | ((first | (apply WQ.val; (exact rfl)) | (apply WQ.valg; (exact rfl); (exact rfl); (exact rfl))); (intro w9 hw9; obtain ⟨s9, rfl⟩ := hw9; simp [go_sem, u00, u01, u02, u03, u04, u05, u10, u11, u12, u13, u14, u15, ul0, ul1, hne]; first | done | exact rfl | (with_reducible exact CX.out s9) | (with_reducible exact CY.out s9)); simp only [Act.put, sl1, sl2, sl3, sl4]))
 refine WQ.fin fun W4 hbn => ?_
 have HT1C := Lib.hid (blk_step HT1B.out hbn); have HT2C := Lib.hid (blk_step HT2.out hbn); have HB9 := Lib.hid (bStep HB.out hbn); clear HB hbn HT1B HT2 CX CY; have HB := HB9; clear HB9
 clear u00 u01 u02 u03 u04 u05 u10 u11 u12 u13 u14 u15 ul0 ul1
 have cv := cell_step HCV.out.1 HB.out; have cz := cell_step HCV.out.2.1 HB.out; have ln := Nat.lt_of_lt_of_le HCV.out.2.2.2 HB.out.size
 go_upto_region 15 with fail
 go_quiet (fail)
 have HB9 : Hid (Below w.heap.size w (W4.drewN nq)) := Lib.hid (bStep HB.out (by repeat' (first | exact Below.refl _ _ | assumption | apply bDrewN | apply bDrew | apply bAlloc | (refine bSet ?_ ?_ _) | (refine bStep ?_ (by assumption)) | omega | (simp <;> omega)))); have HT1D : Hid ((W4.drewN nq).heap[T1]? = _) := Lib.hid (blk_step HT1C.out (by repeat' (first | exact Below.refl _ _ | assumption | apply bDrewN | apply bDrew | apply bAlloc | (refine bSet ?_ ?_ _) | (refine bStep ?_ (by assumption)) | omega | (simp <;> omega)))); have HT2D : Hid ((W4.drewN nq).heap[T2]? = _) := Lib.hid (blk_step HT2C.out (by repeat' (first | exact Below.refl _ _ | assumption | apply bDrewN | apply bDrew | apply bAlloc | (refine bSet ?_ ?_ _) | (refine bStep ?_ (by assumption)) | omega | (simp <;> omega)))); clear HB HT1C HT2C cv cz ln; have HB := HB9; clear HB9; generalize W4.drewN nq = W5 at *
 go_upto_region 19 with (go_at_call 17; refine (CL.out _ HB.out).mono ?_; rintro e w1 ⟨rfl, hbn⟩; have HT1E := Lib.hid (blk_step HT1D.out hbn); have HT2E := Lib.hid (blk_step HT2D.out hbn); have HB9 := Lib.hid (bStep HB.out hbn); clear HB hbn HT1D HT2D; have HB := HB9; clear HB9; have x0 := blk_cell (o := 0) HT1E.out rfl; have x1 := blk_cell (o := 1) HT1E.out rfl; have x2 := blk_cell (o := 2) HT1E.out rfl; have x3 := blk_cell (o := 3) HT1E.out rfl; have x4 := blk_cell (o := 4) HT1E.out rfl; have x5 := blk_cell (o := 5) HT1E.out rfl; have xl := blk_lt HT1E.out)
 go_upto_region 20 with (go_at_call 65; refine (CE.out _ HB.out).mono ?_; rintro e w1 ⟨rfl, g1, hV1, hM1⟩; have HE1 := Lib.hid (Moved.pre HB.out hM1); have HT2F := Lib.hid (hM1.keepT (H.out.ra.step HB.out) _ _ _ _ HT2E.out (by decide) (by decide) (by decide)); have HV1 := Lib.hid hV1; clear hM1 hV1 x0 x1 x2 x3 x4 x5 xl; have x0 := blk_cell (o := 0) HT2F.out rfl; have x1 := blk_cell (o := 1) HT2F.out rfl; have x2 := blk_cell (o := 2) HT2F.out rfl; have x3 := blk_cell (o := 3) HT2F.out rfl; have x4 := blk_cell (o := 4) HT2F.out rfl; have x5 := blk_cell (o := 5) HT2F.out rfl; have xl := blk_lt HT2F.out)
 go_wp2_with (go_at_call 65; refine (CE2.out _ _ HV1.out).mono ?_; rintro e w1 ⟨rfl, g2, hV2, hM2⟩; have HE2 := Lib.hid (Moved.trans HE1.out hM2); have HV2 := Lib.hid hV2; clear hM2 hV2)
 exact bodyPost_ret (v := .int .i64 0) (by simp only [results, Tryz.results55]; go_simp) rfl ⟨rfl, ⟨g2, _, HV2.out, HE2.out⟩⟩
theorem Move_any {B R : Nat} {a : RegA} {g : RegS} {vb vp : Value} {w : World} (h : RegV B R vb a g vp w) (ho : OkA a) (hG : Glob0 w) (b t : Int) (m to : ByteArray) (hs : m.size ≤ 1000000 ∧ to.size ≤ 1000000) :
  Calls Tryz.prog 55 #[.pointer (some ⟨R, 0, none⟩), .int .i64 b, .int .i64 t, .string m, .string to] w fun en w' => en = .returned (.int .i64 (moveA a b t m to).1) ∧ RegN B R vb (moveA a b t m to).2 g vp w w' := by
 by_cases hb : 0 ≤ b ∧ b < a.bks.length
 ·cases h2 : modB m with
  | false => exact Move_20 h ho hG b t m to hs hb h2
  | true =>
   cases h3 : nameB to with
   | false => exact Move_21 h ho hG b t m to hs hb h2 h3
   | true =>
    cases h4 : timeB t with
    | false => exact Move_22 h ho hG b t m to hs hb h2 h3 h4
    | true =>
     have hv := And.intro h2 (And.intro h3 h4)
     cases hp : a.ps[whereA m a]? with
     | none => exact Move_31 h ho hG b t m to hs hb hv (by have := List.getElem?_eq_none_iff.1 hp; omega)
     | some p =>
      cases hq : a.ps[findA to a]? with
      | none => exact Move_32 h ho hG b t m to hs hb hv (List.getElem?_eq_some_iff.1 hp).1 (by have := List.getElem?_eq_none_iff.1 hq; omega)
      | some q =>
       by_cases h6 : whereA m a = findA to a
       ·exact Move_5 h ho hG b t m to hs hb hv p q hp hq h6
       ·cases h7 : canP p.1 (lf p) (takeE t m to) with
        | false => exact Move_6 h ho hG b t m to hs hb hv p q hp hq h6 h7
        | true =>
         cases h8 : canP q.1 (lf q) (bringE t m p.1) with
         | false => exact Move_7 h ho hG b t m to hs hb hv p q hp hq h6 h7 h8
         | true =>
          by_cases h9 : 500 ≤ p.2.length
          ·exact Move_8 h ho hG b t m to hs hb hv p q hp hq h6 h7 h8 h9
          ·by_cases h10 : 500 ≤ q.2.length
           ·exact Move_9 h ho hG b t m to hs hb hv p q hp hq h6 h7 h8 h9 h10
           ·have h11 : ¬ (500 ≤ p.2.length ∨ 500 ≤ q.2.length) := by omega
            by_cases h12 : leftA a b < 2
            ·exact Move_A h ho hG b t m to hs hb hv p q hp hq h6 h7 h8 h11 h12
            ·obtain ⟨n, rfl⟩ := Int.eq_ofNat_of_zero_le hb.1
             exact Move_B h ho hG n t m to hs hb hv p q hp hq h6 h7 h8 h11 h12
 ·exact Move_1 h ho hG b t m to hs hb
end Go.Proofs.YtmpilgkfbibhlaaGreatDoor
