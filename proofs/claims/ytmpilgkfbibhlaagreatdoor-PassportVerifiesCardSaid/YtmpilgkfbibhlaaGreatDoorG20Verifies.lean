/-
 A pair in a list of pairs.
-/
import Derived.Test.YtmpilgkfbibhlaaGreatDoorG18Verifies
import Derived.Test.YtmpilgkfbibhlaaGreatDoorG19Verifies
import Derived.Test.YtmpilgkfbibhlaaGreatDoorG17Verifies
import Derived.Deep.MidRow
import Derived.Deep.Quiet
import Derived.Test.YtmpilgkfbibhlaaGreatDoorG11Verifies
set_option linter.unusedSimpArgs false
set_option linter.unusedVariables false
namespace Go.Proofs.YtmpilgkfbibhlaaGreatDoor
open Go.RowKit
def PrAt (a : Option Addr) (ps : List (Int × Int)) (W : World) : Prop := ps ≠ [] → ∃ b off, a = some ⟨b, off, none⟩ ∧ b < W.heap.size ∧ ∀ (k : Nat) (p : Int × Int), ps[k]? = some p → W.cell? ⟨b, off + k * 2, none⟩ = some (.int .i64 p.1) ∧ W.cell? ⟨b, off + k * 2 + 1, none⟩ = some (.int .i64 p.2)
theorem PrAt.step {a : Option Addr} {ps : List (Int × Int)} {W w2 : World} (h : PrAt a ps W) (hb : Below W.heap.size W w2) : PrAt a ps w2 := by
 intro hn
 obtain ⟨b, off, e1, e2, e3⟩ := h hn
 exact ⟨b, off, e1, Nat.lt_of_lt_of_le e2 hb.size, fun k p hk => ⟨cell_step (e3 k p hk).1 hb, cell_step (e3 k p hk).2 hb⟩⟩
def prHas (ps : List (Int × Int)) (x y : Int) : Bool := ps.any fun p => x == p.1 && y == p.2
theorem prHas_take {l : List (Int × Int)} {i : Nat} {t : Int × Int} {x y : Int} (h : prHas (l.take i) x y = false) (hk : l[i]? = some t) (hb : (x == t.1 && y == t.2) = false) : prHas (l.take (i + 1)) x y = false := by
 unfold prHas at *
 rw [List.take_add_one, hk, List.any_append, h]
 simpa using hb
set_option maxHeartbeats 2000000 in
theorem idxPr_any {a : Option Addr} {l : List (Int × Int)} {w : World} (c : Nat) (h : PrAt a l w) (hl : l.length ≤ 1000000) (x y : Int) : Calls Tryz.prog 104 #[.slice a l.length c, .agg #[.int .i64 x, .int .i64 y]] w fun e w' => ∃ i : Int, e = .returned (.int .i64 i) ∧ (decide (i ≥ 0) = prHas l x y) ∧ Below w.heap.size w w' := by
 have HB := Lib.hid (Mr.bAl (W := w) (o := .cells #[.int .i64 x, .int .i64 y] 101))
 have H := Lib.hid (h.step HB.out)
 have HX := Lib.hid (blk_new w (.cells #[.int .i64 x, .int .i64 y] 101))
 clear h
 go_enter Tryz.func104, Tryz.ntmps104
 go_wp2_with fail
 generalize (w.alloc _) = w0 at *
 go_loopw [8] (fun ix wr => ∃ i : Nat, i ≤ l.length ∧ ix = .int .i64 i ∧ Hid (prHas (l.take i) x y = false) ∧ Hid (Below w0.heap.size w0 wr)) (fun ix _ => l.length - (intOf ix).toNat)
 case atStart => exact ⟨0, by omega, rfl, rfl, Below.refl _ _⟩
 case round =>
  obtain ⟨i, hi, rfl, HT, HW⟩ := hrel
  have HX2 := blk_step HX.out HW.out
  have x0 := blk_cell (o := 0) HX2 rfl
  have x1 := blk_cell (o := 1) HX2 rfl
  have xl := blk_lt HX2
  clear HX2
  by_cases hc : i < l.length
  ·have c1 : (i : Int) < l.length := by omega
   have c0 : (0 : Int) ≤ i := by omega
   obtain ⟨t, hk⟩ : ∃ t, l[i]? = some t := ⟨l[i], List.getElem?_eq_getElem hc⟩
   obtain ⟨b, off, rfl, hb0, hcs⟩ := H.out (by rintro rfl; simp at hc)
   have g0 := cell_step (hcs i t hk).1 HW.out
   have g1 := cell_step (hcs i t hk).2 HW.out
   have HKK := Lib.hid hk
   obtain ⟨t1, t2⟩ := t
   dsimp only at g0 g1
   clear hcs hk hc
   by_cases he : (x == t1 && y == t2) = true
   ·have HR : Hid (prHas l x y = true) := List.any_eq_true.2 ⟨(t1, t2), List.mem_of_getElem? HKK.out, he⟩
    have HEE := Lib.hid he
    clear he
    go_upto_region 4 with fail
    have HWW := Lib.hid HW.out
    have y0 := fun s : WStep wr => cell_step x0 s.2
    have y1 := fun s : WStep wr => cell_step x1 s.2
    have k0 := fun s : WStep wr => cell_step g0 s.2
    have k1 := fun s : WStep wr => cell_step g1 s.2
    clear x0 x1 g0 g1
    refine wp_region_step (by kernel_rfl) (by kernel_rfl) ?_
    repeat (quiet_step (fail))
    refine wpQuiet_step (fun K hK => ?_)
    rw [if_pos (by rfl)]
    refine quiet_preql x y t1 t2 (.tmp 11) (.tmp 15) _ rfl rfl rfl HEE.out ?_
    refine hK _ ?_
    clear hK K
    refine wpQuiet_nil ?_
    intro W4 hw'
    obtain ⟨⟨W4', hW4⟩, hw''⟩ := hw'
    dsimp only at hw''
    subst hw''
    have HW4 := Lib.hid (bStep HWW.out hW4)
    clear y0 y1 k0 k1 hW4
    go_wp2_with fail
    exact bodyPost_ret (v := .int .i64 (i : Int)) (by simp only [results, Tryz.results104]; go_simp) rfl ⟨i, rfl, by rw [HR.out]; exact decide_eq_true (by omega), bStep HB.out HW4.out⟩
   ·have he2 : (x == t1 && y == t2) = false := by simpa using he
    have HE := Lib.hid (prHas_take HT.out HKK.out he2)
    have HEE := Lib.hid he2
    clear he he2
    go_upto_region 4 with fail
    have HWW := Lib.hid HW.out
    have y0 := fun s : WStep wr => cell_step x0 s.2
    have y1 := fun s : WStep wr => cell_step x1 s.2
    have k0 := fun s : WStep wr => cell_step g0 s.2
    have k1 := fun s : WStep wr => cell_step g1 s.2
    clear x0 x1 g0 g1
    refine wp_region_step (by kernel_rfl) (by kernel_rfl) ?_
    repeat (quiet_step (fail))
    refine wpQuiet_step (fun K hK => ?_)
    rw [if_pos (by rfl)]
    refine quiet_preql x y t1 t2 (.tmp 11) (.tmp 15) _ rfl rfl rfl HEE.out ?_
    refine hK _ ?_
    clear hK K
    refine wpQuiet_nil ?_
    intro W4 hw'
    obtain ⟨⟨W4', hW4⟩, hw''⟩ := hw'
    dsimp only at hw''
    subst hw''
    have HW4 := Lib.hid (bStep HWW.out hW4)
    clear y0 y1 k0 k1 hW4
    go_wp2_with fail
    exact ⟨⟨i + 1, by omega, by push_cast; rfl, HE, HW4⟩, by simp [intOf]; omega⟩
  ·obtain rfl : i = l.length := by omega
   have HR : Hid (prHas l x y = false) := by have q := HT.out; rw [List.take_of_length_le (Nat.le_refl _)] at q; exact q
   clear hc
   go_wp2_with fail
   exact bodyPost_ret (v := .int .i64 (-1)) (by simp only [results, Tryz.results104]; go_simp) rfl ⟨-1, rfl, by rw [HR.out]; rfl, bStep HB.out HW.out⟩
set_option maxHeartbeats 1000000 in
theorem hasPr_any {a : Option Addr} {l : List (Int × Int)} {w : World} (c : Nat) (h : PrAt a l w) (hl : l.length ≤ 1000000) (x y : Int) : Calls Tryz.prog 44 #[.slice a l.length c, .agg #[.int .i64 x, .int .i64 y]] w fun e w' => e = .returned (.bool (prHas l x y)) ∧ Below w.heap.size w w' := by
 have HB := Lib.hid (Mr.bAl (W := w) (o := .cells #[.int .i64 x, .int .i64 y] 101))
 have CI := Lib.hid (idxPr_any c (h.step HB.out) hl x y)
 clear h hl
 generalize prHas l x y = r at *
 generalize l.length = n at *
 go_enter Tryz.func44, Tryz.ntmps44
 go_wp2_with (go_at_call 104; refine CI.out.mono ?_; rintro e w1 ⟨i, rfl, hi, hb1⟩; have HI := Lib.hid hi; clear hi)
 exact bodyPost_ret (v := .bool (decide (i ≥ 0))) (by simp only [results, Tryz.results44]; go_simp) rfl ⟨by rw [HI.out], bStep HB.out hb1⟩
end Go.Proofs.YtmpilgkfbibhlaaGreatDoor
namespace Go.Proofs.YtmpilgkfbibhlaaGreatDoor
open Go
structure LifeN (x : LifeS) : Prop where
 thr : 0 ≤ x.thr ∧ x.thr ≤ (x.n : Int) * 1099511627776
 hot : 0 ≤ x.hot ∧ x.hot ≤ (x.n : Int) * 1099511627776
 fau : 0 ≤ x.fau ∧ x.fau ≤ (x.n : Int)
 mov : 0 ≤ x.mov ∧ x.mov ≤ (x.n : Int)
 ms : x.ms.length ≤ 32 * x.n
 os : x.os.length ≤ x.n
theorem LifeN.zero : LifeN life0 := ⟨⟨by decide, by decide⟩, ⟨by decide, by decide⟩, ⟨by decide, by decide⟩, ⟨by decide, by decide⟩, by decide, by decide⟩
theorem dropT_len (l : List ByteArray) (s : ByteArray) : (dropT l s).length ≤ l.length := List.length_filter_le _ l
theorem LifeN.add {x : LifeS} (h : LifeN x) (name : ByteArray) {e : Evt} (hok : okX e = true) : LifeN (x.add name e) := by
 obtain ⟨k, t, a, b, nm, ot⟩ := e
 obtain ⟨he, -, -⟩ := okE_ev hok
 have hk := he.k
 have ha := he.a
 have hb := he.b
 change 1 ≤ k ∧ k ≤ 9 at hk
 change 0 ≤ a ∧ a ≤ 1099511627776 at ha
 change 0 ≤ b ∧ b ≤ 1099511627776 at hb
 have hm : k = 1 → b ≤ 32 := fun e1 => by subst e1; exact (made_b hok).2
 clear he
 obtain ⟨h1, h2, h3, h4, h5, h6⟩ := h
 have ht : ((x.add name (k, t, a, b, nm, ot)).n : Int) = (x.n : Int) + 1 := by simp [LifeS.add]
 have hn : (x.add name (k, t, a, b, nm, ot)).n = x.n + 1 := rfl
 refine ⟨?_, ?_, ?_, ?_, ?_, ?_⟩
 ·rw [ht]; show 0 ≤ (if k = 2 then x.thr + a else x.thr) ∧ (if k = 2 then x.thr + a else x.thr) ≤ _; split <;> omega
 ·rw [ht]; show 0 ≤ (if k = 2 then x.hot + b else x.hot) ∧ (if k = 2 then x.hot + b else x.hot) ≤ _; split <;> omega
 ·rw [ht]; show 0 ≤ (if k = 4 then x.fau + 1 else x.fau) ∧ (if k = 4 then x.fau + 1 else x.fau) ≤ _; split <;> omega
 ·rw [ht]; show 0 ≤ (if k = 5 then x.mov + 1 else if k = 6 then x.mov + 1 else x.mov) ∧ (if k = 5 then x.mov + 1 else if k = 6 then x.mov + 1 else x.mov) ≤ _
  split
  ·omega
  ·split <;> omega
 ·rw [hn]
  show (modStep name x.ms (k, t, a, b, nm, ot)).length ≤ _
  unfold modStep
  dsimp only
  split
  ·rename_i c
   have := hm c
   simp only [List.length_append, List.length_map, List.length_range]; omega
  ·split
   ·simp only [List.length_append, List.length_singleton]; omega
   ·split
    ·have := dropT_len x.ms nm; omega
    ·omega
 ·rw [hn]
  show (opnStep x.os (k, t, a, b, nm, ot)).length ≤ _
  unfold opnStep
  dsimp only
  split
  ·simp only [List.length_append, List.length_singleton]; omega
  ·split
   ·have := dropT_len x.os nm; omega
   ·omega
theorem lifeOf_N (name : ByteArray) : ∀ h : List Evt, (∀ e ∈ h, okX e = true) → LifeN (lifeOf name h) := by
 refine snocInd (fun _ => LifeN.zero) fun h e ih hh => ?_
 rw [lifeOf_snoc]
 exact (ih fun e' he' => hh e' (List.mem_append_left _ he')).add name (hh e (by simp))
theorem LifeN.lifeB {x : LifeS} (h : LifeN x) (hn : x.n ≤ 1000) : LifeB x ∧ x.ms.length ≤ 100000 ∧ x.os.length ≤ 100000 := by
 obtain ⟨h1, h2, h3, h4, h5, h6⟩ := h
 refine ⟨⟨by omega, ⟨h1.1, by omega⟩, ⟨h2.1, by omega⟩, ⟨h3.1, by omega⟩, ⟨h4.1, by omega⟩⟩, by omega, by omega⟩
section
variable {pt : Nat} {bks : List Bk} {name : ByteArray} {l : List Ent} {n : Nat}
theorem AllR.zero : AllR pt bks name l 0 := fun i hi => absurd hi (Nat.not_lt_zero i)
theorem AllR.snoc {x : Ent} (h : AllR pt bks name l n) (hx : l[n]? = some x) (hr : rightB pt bks name (l.take n) x = true) : AllR pt bks name l (n + 1) := by
 intro i hi
 by_cases c : i < n
 ·exact h i c
 ·obtain rfl : i = n := by omega
  exact ⟨x, hx, hr⟩
theorem rightB_ok {pre : List Ent} {x : Ent} (h : rightB pt bks name pre x = true) : okX x.1 = true ∧ canR name (evsOf pre) x.1 = true := by
 unfold rightB at h
 simp only [Bool.and_eq_true] at h
 exact ⟨h.1.1.1.1, h.1.1.1.2⟩
theorem AllR.leg (h : AllR pt bks name l n) (hn : n ≤ l.length) : LegH name (evsOf (l.take n)) ∧ ∀ e ∈ evsOf (l.take n), okX e = true := by
 induction n with
 | zero => exact ⟨LegH.nil name, fun e he => by simp [evsOf] at he⟩
 | succ n ih =>
  obtain ⟨q1, q2⟩ := ih (fun i hi => h i (Nat.lt_succ_of_lt hi)) (by omega)
  obtain ⟨x, hx, hr⟩ := h n (Nat.lt_succ_self n)
  obtain ⟨r1, r2⟩ := rightB_ok hr
  have e : evsOf (l.take (n + 1)) = evsOf (l.take n) ++ [x.1] := by rw [List.take_add_one, hx]; unfold evsOf; rw [List.map_append]; rfl
  rw [e]
  refine ⟨q1.snoc r2, fun e' he' => ?_⟩
  rcases List.mem_append.1 he' with he' | he'
  ·exact q2 e' he'
  ·rw [List.mem_singleton.1 he']; exact r1
theorem AllR.ver (h : AllR pt bks name l n) (hn : n ≤ l.length) : verN pt bks name [] l = verN pt bks name (l.take n) (l.drop n) := by
 induction n with
 | zero => rfl
 | succ n ih =>
  rw [ih (fun i hi => h i (Nat.lt_succ_of_lt hi)) (by omega)]
  obtain ⟨x, hx, hr⟩ := h n (Nat.lt_succ_self n)
  have hd : l.drop n = x :: l.drop (n + 1) := by
   have hlt : n < l.length := by omega
   rw [List.drop_eq_getElem_cons hlt]
   rw [List.getElem?_eq_getElem hlt] at hx
   rw [Option.some.inj hx]
  rw [hd, verN_go hr, List.take_add_one, hx]
  rfl
theorem AllR.stop {x : Ent} (h : AllR pt bks name l n) (hx : l[n]? = some x) (hr : rightB pt bks name (l.take n) x = false) : verN pt bks name [] l = n := by
 have hlt : n < l.length := (List.getElem?_eq_some_iff.1 hx).1
 have hd : l.drop n = x :: l.drop (n + 1) := by
  rw [List.drop_eq_getElem_cons hlt]
  rw [List.getElem?_eq_getElem hlt] at hx
  rw [Option.some.inj hx]
 rw [h.ver (by omega), hd, verN_stop hr, List.length_take]
 omega
theorem AllR.all (h : AllR pt bks name l l.length) : verN pt bks name [] l = l.length := by
 rw [h.ver (Nat.le_refl _), List.take_length, List.drop_length]
 rfl
end
def verR (pt : Nat) (bks : List Bk) (name : ByteArray) (l : List Ent) : Nat × Bool × Int :=
 if secR pt bks ≠ 0 then (0, false, secR pt bks) else if nameB name = false then (0, false, 2) else if 500 < l.length then (0, false, 6)
 else (verN pt bks name [] l, decide (verN pt bks name [] l = l.length), 0)
def verV (r : Nat × Bool × Int) : Value := .tuple #[.int .i64 (r.1 : Int), .bool r.2.1, .int .i64 r.2.2]
theorem secR_ok {pt : Nat} {bks : List Bk} (h : secR pt bks = 0) : (1 ≤ pt ∧ pt < P31) ∧ (1 ≤ bks.length ∧ bks.length ≤ 8) ∧ ∀ bk ∈ bks, (1 ≤ bk.1 ∧ bk.1 < P31) ∧ bk.2.length ≤ 5000 ∧ ∀ n ∈ bk.2, n < P31 := by
 unfold secR at h
 split at h
 ·cases h
 ·rename_i c1
  split at h
  ·cases h
  ·rename_i c2
   refine ⟨by omega, by omega, fun bk hbk => ?_⟩
   have hb : badBk bk = false := by
    cases hq : badBk bk with
    | false => rfl
    | true => exact absurd (Or.inr (Or.inr (List.any_eq_true.2 ⟨bk, hbk, hq⟩))) c2
   obtain ⟨p, ps⟩ := bk
   unfold badBk at hb
   simp only [Bool.or_eq_false_iff, decide_eq_false_iff_not, List.any_eq_false, decide_eq_true_eq] at hb
   obtain ⟨⟨⟨b1, b2⟩, b3⟩, b4⟩ := hb
   exact ⟨⟨by show 1 ≤ p; omega, by show p < P31; omega⟩, by show ps.length ≤ 5000; omega, fun n hn => by have := b4 n hn; omega⟩
def prOf (l : List Ent) : List (Int × Int) := l.map fun y => (y.2.1, y.2.2.1)
theorem pairIn_has (pre : List Ent) (b p : Int) : pairIn pre b p = prHas (prOf pre) b p := by
 unfold pairIn prHas prOf
 rw [List.any_map]
 congr 1
 funext y
 show ((y.2.1 == b) && (y.2.2.1 == p)) = ((b == y.2.1) && (p == y.2.2.1))
 rw [Bool.beq_comm (a := y.2.1), Bool.beq_comm (a := y.2.2.1)]
def flatP (l : List (Int × Int)) : List Value := l.flatMap fun p => [.int .i64 p.1, .int .i64 p.2]
theorem flatP_len (h : List (Int × Int)) : (flatP h).length = h.length * 2 := by
 induction h with
 | nil => rfl
 | cons e h ih => unfold flatP at *; rw [List.flatMap_cons, List.length_append, ih, List.length_cons]; simp; omega
theorem flatP_snoc (h : List (Int × Int)) (e : Int × Int) : flatP (h ++ [e]) = flatP h ++ [.int .i64 e.1, .int .i64 e.2] := by unfold flatP; simp
theorem flatP_at {h : List (Int × Int)} {k : Nat} {e : Int × Int} (hk : h[k]? = some e) : (flatP h)[k * 2]? = some (.int .i64 e.1) ∧ (flatP h)[k * 2 + 1]? = some (.int .i64 e.2) := by
 induction h generalizing k with
 | nil => cases hk
 | cons e0 h ih =>
  unfold flatP
  rw [List.flatMap_cons]
  cases k with
  | zero =>
   have : e0 = e := by simpa using hk
   subst this
   exact ⟨rfl, rfl⟩
  | succ k =>
   have := ih (k := k) (by simpa using hk)
   unfold flatP at this
   rw [show (k + 1) * 2 = k * 2 + 2 by omega, show k * 2 + 2 + 1 = k * 2 + 1 + 2 by omega]
   exact this
theorem headOf_snoc (pt : Nat) (name : ByteArray) (pre : List Ent) (y : Ent) : headOf pt name (pre ++ [y]) = y.2.2.2.1 := by unfold headOf; simp
end Go.Proofs.YtmpilgkfbibhlaaGreatDoor
namespace Go.Proofs.YtmpilgkfbibhlaaGreatDoor
open Go.RowKit Mr
theorem infoEv : (Tryz.prog.info? 29).map (fun i => (i.zero, i.size, i.bytes)) = some (some (.agg #[.int .i64 0, .int .i64 0, .int .i64 0, .int .i64 0, .string ⟨#[]⟩, .string ⟨#[]⟩]), 6, 64) := by kernel_rfl
def flatE (h : List Evt) : List Value := h.flatMap evtC
theorem flatE_len (h : List Evt) : (flatE h).length = h.length * 6 := by
 induction h with
 | nil => rfl
 | cons e h ih => unfold flatE at *; rw [List.flatMap_cons, List.length_append, ih, evtC_len, List.length_cons]; omega
theorem flatE_snoc (h : List Evt) (e : Evt) : flatE (h ++ [e]) = flatE h ++ evtC e := by unfold flatE; simp
theorem flatE_at {h : List Evt} {k j : Nat} {e : Evt} {u : Value} (hk : h[k]? = some e) (hj : (evtC e)[j]? = some u) : (flatE h)[k * 6 + j]? = some u := by
 induction h generalizing k with
 | nil => cases hk
 | cons e0 h ih =>
  unfold flatE
  rw [List.flatMap_cons]
  have hj6 : j < 6 := by have := (List.getElem?_eq_some_iff.1 hj).1; rwa [evtC_len] at this
  cases k with
  | zero =>
   have : e0 = e := by simpa using hk
   subst this
   rw [Nat.zero_mul, Nat.zero_add, List.getElem?_append_left (by rw [evtC_len]; exact hj6)]
   exact hj
  | succ k =>
   rw [List.getElem?_append_right (by rw [evtC_len]; omega), evtC_len]
   have := ih (k := k) (by simpa using hk)
   unfold flatE at this
   rw [show (k + 1) * 6 + j - 6 = k * 6 + j by omega]
   exact this
theorem evtC_one (e : Evt) : ∀ u ∈ evtC e, u.oneCell' = true := by
 obtain ⟨k, t, a, b, nm, ot⟩ := e
 intro u hu
 simp only [evtC, List.mem_cons, List.not_mem_nil, or_false] at hu
 rcases hu with rfl | rfl | rfl | rfl | rfl | rfl <;> rfl
theorem new_cells6 {W : World} {cs : List Value} {t : TypeId} {n : Nat} : n * 6 ≠ 0 → ∃ p off, (some (⟨W.heap.size, 0, none⟩ : Addr)) = some ⟨p, off, none⟩ ∧ ∀ (j : Nat) (u : Value), cs[j]? = some u → (W.alloc (.cells cs.toArray t)).cell? ⟨p, off + j, none⟩ = some u := fun _ =>
 ⟨_, 0, rfl, fun j u hu => blk_cell (blk_new W _) (by rw [Nat.zero_add]; simpa using hu)⟩
set_option maxHeartbeats 2000000 in
set_option maxRecDepth 20000 in
theorem REvents_any {a : Option Addr} {es : List Ent} {w : World} (c : Nat) (h : EntAt a es w) (hl : es.length ≤ 100000) : Calls Tryz.prog 51 #[.slice a es.length c] w fun en w' => ∃ v, en = .returned v ∧ w'.ownsRow w.heap.size 29 6 v es.length (flatE (evsOf es)) ∧ Below w.heap.size w w' := by
 obtain ⟨i0, hi, hz0, hz1, hz2⟩ := info_parts infoEv
 have H := Lib.hid h
 clear h
 go_enter Tryz.func51, Tryz.ntmps51
 go_wp2_with fail
 go_loopw [3, 4] (fun v ix wr => ∃ i : Nat, i ≤ es.length ∧ ix = .int .i64 i ∧ Hid (wr.ownsRow w.heap.size 29 6 v i (flatE (evsOf (es.take i)))) ∧ Hid (Below w.heap.size w wr)) (fun _ ix _ => es.length - (intOf ix).toNat)
 case atStart => exact ⟨0, by omega, rfl, ⟨rfl, Or.inl ⟨rfl, rfl⟩⟩, Below.refl _ _⟩
 case round =>
  obtain ⟨i, hi2, rfl, HO, HW⟩ := hrel
  by_cases hc : i < es.length
  ·have c1 : (i : Int) < es.length := by omega
   have c0 : (0 : Int) ≤ i := by omega
   obtain ⟨y, hk⟩ : ∃ y, es[i]? = some y := ⟨es[i], List.getElem?_eq_getElem hc⟩
   obtain ⟨b, off, rfl, hb0, hcs⟩ := H.out (by rintro rfl; simp at hc)
   have HS : Hid (es.take (i + 1) = es.take i ++ [y]) := by unfold Hid; rw [List.take_add_one, hk]; rfl
   obtain ⟨⟨k, t, a1, b1, nm, ot⟩, by_, pad, head, tag⟩ := y
   have g0 : wr.cell? ⟨b, off + i * 10, none⟩ = some (.int .i64 k) := cell_step (hcs i _ hk 0 _ rfl) HW.out
   have g1 : wr.cell? ⟨b, off + i * 10 + 1, none⟩ = some (.int .i64 t) := cell_step (hcs i _ hk 1 _ rfl) HW.out
   have g2 : wr.cell? ⟨b, off + i * 10 + 2, none⟩ = some (.int .i64 a1) := cell_step (hcs i _ hk 2 _ rfl) HW.out
   have g3 : wr.cell? ⟨b, off + i * 10 + 3, none⟩ = some (.int .i64 b1) := cell_step (hcs i _ hk 3 _ rfl) HW.out
   have g4 : wr.cell? ⟨b, off + i * 10 + 4, none⟩ = some (.string nm) := cell_step (hcs i _ hk 4 _ rfl) HW.out
   have g5 : wr.cell? ⟨b, off + i * 10 + 5, none⟩ = some (.string ot) := cell_step (hcs i _ hk 5 _ rfl) HW.out
   clear hcs hk hc
   go_wp2_with (at_builtin; refine wpList_app _ rfl (.tmp 11) (.tmp 17) 61 rfl w.heap.size 29 i0 _ 6 64 Tryz.underlying61 hi hz0 hz1 hz2 rfl (by decide) _ i (flatE (evsOf (es.take i))) rfl (own_step HO.out (bAl (o := .cells (evtC (k, t, a1, b1, nm, ot)).toArray 29))) (some ⟨wr.heap.size, 0, none⟩) 1 1 (evtC (k, t, a1, b1, nm, ot)) rfl rfl new_cells6 (evtC_one _) (by unfold maxLen; omega) (by omega) (by have := HW.out.size; simp; omega) ?_; intro v' w5 hown hgrow hat; have hO2 : Hid (w5.ownsRow w.heap.size 29 6 v' (i + 1) (flatE (evsOf (es.take (i + 1))))) := (by unfold Hid; rw [HS.out]; unfold evsOf; rw [List.map_append]; exact (flatE_snoc _ _) ▸ hown); have hB2 : Hid (Below w.heap.size w w5) := (bAlloc HW.out _).grown hgrow (by have := HW.out.size; simp; omega) (fun k hk => (World.ownsRow.lt HO.out k hk).1); clear hown hgrow hat)
   exact ⟨⟨i + 1, by omega, by push_cast; rfl, hO2, hB2⟩, by simp [intOf]; omega⟩
  ·obtain rfl : i = es.length := by omega
   have hO : Hid (wr.ownsRow w.heap.size 29 6 u3 es.length (flatE (evsOf es))) := by have q := HO.out; rw [List.take_of_length_le (Nat.le_refl _)] at q; exact q
   obtain ⟨a9, c9, e9, -⟩ := Rw.Own.get (r := ⟨29, 6, u3, es.length, flatE (evsOf es)⟩) hO.out
   dsimp only at e9
   subst e9
   clear hc
   go_wp2_with fail
   exact bodyPost_ret (v := .slice a9 es.length c9) (by simp only [results, Tryz.results51]; go_simp) rfl ⟨_, rfl, hO.out, HW.out⟩
end Go.Proofs.YtmpilgkfbibhlaaGreatDoor
namespace Go.Proofs.YtmpilgkfbibhlaaGreatDoor
open Sx Go.RowKit Mr
theorem ba_beq (a b : ByteArray) : (a == b) = decide (a = b) := by
 obtain ⟨a⟩ := a
 obtain ⟨b⟩ := b
 rw [show ((⟨a⟩ : ByteArray) == ⟨b⟩) = (a == b) from rfl, Bool.eq_iff_iff]
 simp
def evtB : Evt → Evt → Bool
 | (k, t, a, b, nm, ot), (k', t', a', b', nm', ot') => (k == k') && ((t == t') && ((a == a') && ((b == b') && ((nm == nm') && (ot == ot')))))
def entB : Ent → Ent → Bool
 | (e, by_, pad, head, tag), (e', by', pad', head', tag') => evtB e e' && ((by_ == by') && ((pad == pad') && (((head : Int) == (head' : Int)) && ((tag : Int) == (tag' : Int)))))
theorem entB_iff (y z : Ent) : entB y z = decide (y = z) := by
 obtain ⟨⟨k, t, a, b, nm, ot⟩, by_, pad, head, tag⟩ := y
 obtain ⟨⟨k', t', a', b', nm', ot'⟩, by', pad', head', tag'⟩ := z
 unfold entB evtB
 dsimp only
 rw [ba_beq nm, ba_beq ot, Bool.eq_iff_iff]
 simp only [Bool.and_eq_true, beq_iff_eq, decide_eq_true_eq, Prod.mk.injEq]
 constructor
 ·rintro ⟨⟨h1, h2, h3, h4, h5, h6⟩, h7, h8, h9, h10⟩
  exact ⟨⟨h1, h2, h3, h4, h5, h6⟩, h7, h8, by omega, by omega⟩
 ·rintro ⟨⟨h1, h2, h3, h4, h5, h6⟩, h7, h8, h9, h10⟩
  exact ⟨⟨h1, h2, h3, h4, h5, h6⟩, h7, h8, by omega, by omega⟩
theorem entV (k t a b : Int) (nm ot : ByteArray) (by_ pad head tag : Int) (k' t' a' b' : Int) (nm' ot' : ByteArray) (by' pad' head' tag' : Int) :
  eqV tbl 50 31 (.agg [.i .i64 k false, .i .i64 t false, .i .i64 a false, .i .i64 b false, .s nm false, .s ot false, .i .i64 by_ false, .i .i64 pad false, .i .u64 head false, .i .u64 tag false])
   (.agg [.i .i64 k' false, .i .i64 t' false, .i .i64 a' false, .i .i64 b' false, .s nm' false, .s ot' false, .i .i64 by' false, .i .i64 pad' false, .i .u64 head' false, .i .u64 tag' false]) =
   some (((k == k') && ((t == t') && ((a == a') && ((b == b') && ((nm == nm') && (ot == ot')))))) && ((by_ == by') && ((pad == pad') && ((head == head') && (tag == tag')))), false) := by kernel_rfl
theorem ent_run (y z : Ent) (W : World) : (Op.equalIn 10000 31 (entX y) (entX z)).run Tryz.prog W = .ok (entB y z) W := by
 obtain ⟨⟨k, t, a, b, nm, ot⟩, by_, pad, head, tag⟩ := y
 obtain ⟨⟨k', t', a', b', nm', ot'⟩, by', pad', head', tag'⟩ := z
 exact eqV_ok tbl_ok 50 9950 _ _ _ _ (entV k t a b nm ot by_ pad (head : Int) (tag : Int) k' t' a' b' nm' ot' by' pad' (head' : Int) (tag' : Int)) env0 W
theorem entguard : Tryz.prog.eqGuardType Tryz.prog.depth 31 = false := by kernel_rfl
theorem entneq_at {o : Oper} {a : Act} {C : World → Prop} {w : World} (y z : Ent) (x u : Operand) (ty : TypeId) (ho : o.op = .binOp .neq 31 x u ty) (hx : a.eval x = entX y) (hy : a.eval u = entX z) {r : Bool} (hb : (!(entB y z)) = r) : o.quietAt Tryz.prog a C w (.bool r) := by
 subst hb
 have hr := ent_run y z w
 unfold entX at hr hx hy
 unfold Oper.quietAt execOp
 simp only [ho, hx, hy, Sem.run_bind, Sem.run_pure, run_eqGuard_agg _ _ _ _ _ _ _ entguard, Result.andThen_ok, run_neq_struct, hr]
 exact ⟨rfl, rfl⟩
theorem entload_at {o : Oper} {a : Act} {C : World → Prop} {w : World} (y : Ent) (x : Operand) (b off : Nat) (ho : o.op = .load 31 x) (hx : a.eval x = .pointer (some ⟨b, off, none⟩))
  (hc : ∀ (j : Nat) (u : Value), (entC y)[j]? = some u → w.cell? ⟨b, off + j, none⟩ = some u) : o.quietAt Tryz.prog a C w (entX y) := by
 unfold Oper.quietAt execOp
 simp only [ho, hx, Instr.loadAt, Instr.sureAddr, Sem.run_bind, Sem.run_pure, Result.andThen_ok, run_loadVar_mid w b off 31 (entC y) _ (fun j v hv => hc j v hv) Tryz.underlying31 rfl ent_size]
 exact ⟨rfl, rfl⟩
theorem bSetCellsE {N b : Nat} {w : World} : ∀ (vs : List Value) (o : Nat) {W : World}, Below N w W → N ≤ b → Below N w (W.setCells b o vs)
 | [], _, _, h, _ => h
 | v :: vs, o, _, h, hb => bSetCellsE vs (o + 1) (h.setCell (p := ⟨b, o, none⟩) hb v) hb
set_option maxHeartbeats 1000000 in
theorem entBox (W : World) (y : Ent) : ((W.alloc (.cells zeroE 31)).setCells W.heap.size 0 (entC y)).heap[W.heap.size]? = some (.cells (entC y).toArray 31 (0, 0)) ∧
  Below W.heap.size W ((W.alloc (.cells zeroE 31)).setCells W.heap.size 0 (entC y)) := by
 refine ⟨?_, ?_⟩
 ·obtain ⟨⟨k, t, a, b, nm, ot⟩, by_, pad, head, tag⟩ := y
  have hz : (W.alloc (.cells zeroE 31)).heap[W.heap.size]? = some (.cells zeroE 31 (0, 0)) := blk_new W (.cells zeroE 31)
  unfold zeroE at hz ⊢
  have z0 : ((W.alloc (.cells #[.int .i64 0, .int .i64 0, .int .i64 0, .int .i64 0, .string ⟨#[]⟩, .string ⟨#[]⟩, .int .i64 0, .int .i64 0, .int .u64 0, .int .u64 0] 31)).setCell ⟨W.heap.size, 0, none⟩ (.int .i64 k)).heap[W.heap.size]? = some (.cells #[(.int .i64 k), (.int .i64 0), (.int .i64 0), (.int .i64 0), (.string ⟨#[]⟩), (.string ⟨#[]⟩), (.int .i64 0), (.int .i64 0), (.int .u64 0), (.int .u64 0)] 31 (0, 0)) := blk_set hz
  have z1 : (((W.alloc (.cells #[.int .i64 0, .int .i64 0, .int .i64 0, .int .i64 0, .string ⟨#[]⟩, .string ⟨#[]⟩, .int .i64 0, .int .i64 0, .int .u64 0, .int .u64 0] 31)).setCell ⟨W.heap.size, 0, none⟩ (.int .i64 k)).setCell ⟨W.heap.size, 1, none⟩ (.int .i64 t)).heap[W.heap.size]? = some (.cells #[(.int .i64 k), (.int .i64 t), (.int .i64 0), (.int .i64 0), (.string ⟨#[]⟩), (.string ⟨#[]⟩), (.int .i64 0), (.int .i64 0), (.int .u64 0), (.int .u64 0)] 31 (0, 0)) := blk_set z0
  have z2 : ((((W.alloc (.cells #[.int .i64 0, .int .i64 0, .int .i64 0, .int .i64 0, .string ⟨#[]⟩, .string ⟨#[]⟩, .int .i64 0, .int .i64 0, .int .u64 0, .int .u64 0] 31)).setCell ⟨W.heap.size, 0, none⟩ (.int .i64 k)).setCell ⟨W.heap.size, 1, none⟩ (.int .i64 t)).setCell ⟨W.heap.size, 2, none⟩ (.int .i64 a)).heap[W.heap.size]? = some (.cells #[(.int .i64 k), (.int .i64 t), (.int .i64 a), (.int .i64 0), (.string ⟨#[]⟩), (.string ⟨#[]⟩), (.int .i64 0), (.int .i64 0), (.int .u64 0), (.int .u64 0)] 31 (0, 0)) := blk_set z1
  have z3 : (((((W.alloc (.cells #[.int .i64 0, .int .i64 0, .int .i64 0, .int .i64 0, .string ⟨#[]⟩, .string ⟨#[]⟩, .int .i64 0, .int .i64 0, .int .u64 0, .int .u64 0] 31)).setCell ⟨W.heap.size, 0, none⟩ (.int .i64 k)).setCell ⟨W.heap.size, 1, none⟩ (.int .i64 t)).setCell ⟨W.heap.size, 2, none⟩ (.int .i64 a)).setCell ⟨W.heap.size, 3, none⟩ (.int .i64 b)).heap[W.heap.size]? = some (.cells #[(.int .i64 k), (.int .i64 t), (.int .i64 a), (.int .i64 b), (.string ⟨#[]⟩), (.string ⟨#[]⟩), (.int .i64 0), (.int .i64 0), (.int .u64 0), (.int .u64 0)] 31 (0, 0)) := blk_set z2
  have z4 : ((((((W.alloc (.cells #[.int .i64 0, .int .i64 0, .int .i64 0, .int .i64 0, .string ⟨#[]⟩, .string ⟨#[]⟩, .int .i64 0, .int .i64 0, .int .u64 0, .int .u64 0] 31)).setCell ⟨W.heap.size, 0, none⟩ (.int .i64 k)).setCell ⟨W.heap.size, 1, none⟩ (.int .i64 t)).setCell ⟨W.heap.size, 2, none⟩ (.int .i64 a)).setCell ⟨W.heap.size, 3, none⟩ (.int .i64 b)).setCell ⟨W.heap.size, 4, none⟩ (.string nm)).heap[W.heap.size]? = some (.cells #[(.int .i64 k), (.int .i64 t), (.int .i64 a), (.int .i64 b), (.string nm), (.string ⟨#[]⟩), (.int .i64 0), (.int .i64 0), (.int .u64 0), (.int .u64 0)] 31 (0, 0)) := blk_set z3
  have z5 : (((((((W.alloc (.cells #[.int .i64 0, .int .i64 0, .int .i64 0, .int .i64 0, .string ⟨#[]⟩, .string ⟨#[]⟩, .int .i64 0, .int .i64 0, .int .u64 0, .int .u64 0] 31)).setCell ⟨W.heap.size, 0, none⟩ (.int .i64 k)).setCell ⟨W.heap.size, 1, none⟩ (.int .i64 t)).setCell ⟨W.heap.size, 2, none⟩ (.int .i64 a)).setCell ⟨W.heap.size, 3, none⟩ (.int .i64 b)).setCell ⟨W.heap.size, 4, none⟩ (.string nm)).setCell ⟨W.heap.size, 5, none⟩ (.string ot)).heap[W.heap.size]? = some (.cells #[(.int .i64 k), (.int .i64 t), (.int .i64 a), (.int .i64 b), (.string nm), (.string ot), (.int .i64 0), (.int .i64 0), (.int .u64 0), (.int .u64 0)] 31 (0, 0)) := blk_set z4
  have z6 : ((((((((W.alloc (.cells #[.int .i64 0, .int .i64 0, .int .i64 0, .int .i64 0, .string ⟨#[]⟩, .string ⟨#[]⟩, .int .i64 0, .int .i64 0, .int .u64 0, .int .u64 0] 31)).setCell ⟨W.heap.size, 0, none⟩ (.int .i64 k)).setCell ⟨W.heap.size, 1, none⟩ (.int .i64 t)).setCell ⟨W.heap.size, 2, none⟩ (.int .i64 a)).setCell ⟨W.heap.size, 3, none⟩ (.int .i64 b)).setCell ⟨W.heap.size, 4, none⟩ (.string nm)).setCell ⟨W.heap.size, 5, none⟩ (.string ot)).setCell ⟨W.heap.size, 6, none⟩ (.int .i64 by_)).heap[W.heap.size]? = some (.cells #[(.int .i64 k), (.int .i64 t), (.int .i64 a), (.int .i64 b), (.string nm), (.string ot), (.int .i64 by_), (.int .i64 0), (.int .u64 0), (.int .u64 0)] 31 (0, 0)) := blk_set z5
  have z7 : (((((((((W.alloc (.cells #[.int .i64 0, .int .i64 0, .int .i64 0, .int .i64 0, .string ⟨#[]⟩, .string ⟨#[]⟩, .int .i64 0, .int .i64 0, .int .u64 0, .int .u64 0] 31)).setCell ⟨W.heap.size, 0, none⟩ (.int .i64 k)).setCell ⟨W.heap.size, 1, none⟩ (.int .i64 t)).setCell ⟨W.heap.size, 2, none⟩ (.int .i64 a)).setCell ⟨W.heap.size, 3, none⟩ (.int .i64 b)).setCell ⟨W.heap.size, 4, none⟩ (.string nm)).setCell ⟨W.heap.size, 5, none⟩ (.string ot)).setCell ⟨W.heap.size, 6, none⟩ (.int .i64 by_)).setCell ⟨W.heap.size, 7, none⟩ (.int .i64 pad)).heap[W.heap.size]? = some (.cells #[(.int .i64 k), (.int .i64 t), (.int .i64 a), (.int .i64 b), (.string nm), (.string ot), (.int .i64 by_), (.int .i64 pad), (.int .u64 0), (.int .u64 0)] 31 (0, 0)) := blk_set z6
  have z8 : ((((((((((W.alloc (.cells #[.int .i64 0, .int .i64 0, .int .i64 0, .int .i64 0, .string ⟨#[]⟩, .string ⟨#[]⟩, .int .i64 0, .int .i64 0, .int .u64 0, .int .u64 0] 31)).setCell ⟨W.heap.size, 0, none⟩ (.int .i64 k)).setCell ⟨W.heap.size, 1, none⟩ (.int .i64 t)).setCell ⟨W.heap.size, 2, none⟩ (.int .i64 a)).setCell ⟨W.heap.size, 3, none⟩ (.int .i64 b)).setCell ⟨W.heap.size, 4, none⟩ (.string nm)).setCell ⟨W.heap.size, 5, none⟩ (.string ot)).setCell ⟨W.heap.size, 6, none⟩ (.int .i64 by_)).setCell ⟨W.heap.size, 7, none⟩ (.int .i64 pad)).setCell ⟨W.heap.size, 8, none⟩ (.int .u64 (head : Int))).heap[W.heap.size]? = some (.cells #[(.int .i64 k), (.int .i64 t), (.int .i64 a), (.int .i64 b), (.string nm), (.string ot), (.int .i64 by_), (.int .i64 pad), (.int .u64 (head : Int)), (.int .u64 0)] 31 (0, 0)) := blk_set z7
  have z9 : (((((((((((W.alloc (.cells #[.int .i64 0, .int .i64 0, .int .i64 0, .int .i64 0, .string ⟨#[]⟩, .string ⟨#[]⟩, .int .i64 0, .int .i64 0, .int .u64 0, .int .u64 0] 31)).setCell ⟨W.heap.size, 0, none⟩ (.int .i64 k)).setCell ⟨W.heap.size, 1, none⟩ (.int .i64 t)).setCell ⟨W.heap.size, 2, none⟩ (.int .i64 a)).setCell ⟨W.heap.size, 3, none⟩ (.int .i64 b)).setCell ⟨W.heap.size, 4, none⟩ (.string nm)).setCell ⟨W.heap.size, 5, none⟩ (.string ot)).setCell ⟨W.heap.size, 6, none⟩ (.int .i64 by_)).setCell ⟨W.heap.size, 7, none⟩ (.int .i64 pad)).setCell ⟨W.heap.size, 8, none⟩ (.int .u64 (head : Int))).setCell ⟨W.heap.size, 9, none⟩ (.int .u64 (tag : Int))).heap[W.heap.size]? = some (.cells #[(.int .i64 k), (.int .i64 t), (.int .i64 a), (.int .i64 b), (.string nm), (.string ot), (.int .i64 by_), (.int .i64 pad), (.int .u64 (head : Int)), (.int .u64 (tag : Int))] 31 (0, 0)) := blk_set z8
  exact z9
 ·exact bSetCellsE _ _ bAl (Nat.le_refl _)
theorem ent_there (W : World) : (W.alloc (.cells zeroE 31)).there W.heap.size 0 10 := by
 have hz : (W.alloc (.cells zeroE 31)).heap[W.heap.size]? = some (.cells zeroE 31 (0, 0)) := blk_new W (.cells zeroE 31)
 intro j hj
 refine ⟨?_, blk_free hz⟩
 have : j < zeroE.size := hj
 rw [blk_cell hz (v := zeroE[j]) (by rw [Nat.zero_add, Array.getElem?_eq_getElem this])]
 rfl
theorem entC_one (y : Ent) : (entC y).toArray.all (·.oneCell') = true := by
 obtain ⟨⟨k, t, a, b, nm, ot⟩, by_, pad, head, tag⟩ := y
 refine all_oneCell_toArray fun v hv => ?_
 simp only [entC, List.mem_cons, List.not_mem_nil, or_false] at hv
 rcases hv with rfl | rfl | rfl | rfl | rfl | rfl | rfl | rfl | rfl | rfl <;> rfl
end Go.Proofs.YtmpilgkfbibhlaaGreatDoor
namespace Go.Proofs.YtmpilgkfbibhlaaGreatDoor
open Go.RowKit Mr
theorem LifeAt.grown {T : TypeId} {B off : Nat} {name : ByteArray} {x : LifeS} {vm vo : Value} {W w2 : World} {g : Option Nat} (h : LifeAt T B off name x vm vo W) (hg : W.grownBy w2 g) (hB : some B ≠ g) (hs : ∀ k, g = some k → ∃ cs E fr, W.heap[k]? = some (.cells cs E fr) ∧ E ≠ 9) : LifeAt T B off name x vm vo w2 := by
 obtain ⟨⟨cs, h1, h2⟩, h3, h4⟩ := h
 have key : ∀ (b : Nat) (cs : Array Value) (fr : Nat × Nat), W.heap[b]? = some (Obj.cells cs 9 fr) → w2.heap[b]? = W.heap[b]? := fun b cs fr e => hg.block b (blk_lt e) (fun c => by
  obtain ⟨cs2, E, fr2, e1, e2⟩ := hs b c.symm
  rw [e] at e1
  simp at e1
  exact e2 e1.2.1.symm)
 exact ⟨⟨cs, (hg.block B (blk_lt h1) hB).trans h1, h2⟩, h3.keep key, h4.keep key⟩
theorem own_only {T : TypeId} {B off m : Nat} {W w2 : World} {base E sz n : Nat} {v : Value} {xs : List Value} (h : W.ownsRow base E sz v n xs) (ho : OnlyB T B off m W w2) (hB : B < base) : w2.ownsRow base E sz v n xs := by
 obtain ⟨h1, h2⟩ := h
 refine ⟨h1, ?_⟩
 rcases h2 with h2 | ⟨g, cap, cur, q1, q2, q3, q4⟩
 ·exact Or.inl h2
 ·exact Or.inr ⟨g, cap, cur, q1, q2, (ho.block g (blk_lt q3) (by omega)).trans q3, q4⟩
theorem OnlyB.below {T : TypeId} {B off m N : Nat} {w W w2 : World} (hb : Below N w W) (ho : OnlyB T B off m W w2) (hB : N ≤ B) (hN : N ≤ W.heap.size) : Below N w w2 :=
 ⟨ho.os.trans hb.os, ho.tape.trans hb.tape, ho.output.trans hb.output, Nat.le_trans hb.size ho.size, fun k hk => (ho.block k (by omega) (by omega)).trans (hb.block k hk)⟩
structure VfS (w0 : World) (X C N : Nat) (pt : Nat) (name : ByteArray) (pre : List Ent) (v : Value) (W : World) : Prop where
 life : ∃ vm vo, LifeAt 93 X 0 name (lifeOf name (evsOf pre)) vm vo W ∧ (pre = [] → vm = .slice none 0 0)
 chain : W.heap[C]? = some (.cells #[.int .u64 (headOf pt name pre : Int)] 99 (0, 0))
 used : W.ownsRow N 101 2 v pre.length (flatP (prOf pre))
 bel : Below w0.heap.size w0 W
 pl : w0.heap.size ≤ X ∧ X < C ∧ C < N ∧ N ≤ W.heap.size
section
variable {w0 W w2 : World} {X C N pt : Nat} {name : ByteArray} {pre : List Ent} {v : Value}
theorem VfS.step (h : VfS w0 X C N pt name pre v W) (hb : Below W.heap.size W w2) : VfS w0 X C N pt name pre v w2 := by
 obtain ⟨⟨vm, vo, h1, h2⟩, h3, h4, h5, h6⟩ := h
 exact ⟨⟨vm, vo, h1.step hb, h2⟩, blk_step h3 hb, own_step h4 hb, bStep h5 hb, h6.1, h6.2.1, h6.2.2.1, Nat.le_trans h6.2.2.2 hb.size⟩
theorem VfS.prAt (h : VfS w0 X C N pt name pre v W) : ∃ a c, v = .slice a (prOf pre).length c ∧ PrAt a (prOf pre) W := by
 have hl : (prOf pre).length = pre.length := by unfold prOf; rw [List.length_map]
 obtain ⟨h1, h2⟩ := h.used
 rcases h2 with ⟨h2, h3⟩ | ⟨g, cap, cur, q1, q2, q3, q4, q5, q6, q7⟩
 ·exact ⟨none, 0, by rw [h2, hl, h3], fun hn => absurd (by rw [← List.length_eq_zero_iff, hl]; exact h3) hn⟩
 ·refine ⟨_, cap, by rw [q1, hl], fun _ => ⟨g, 0, rfl, blk_lt q3, fun k p hk => ?_⟩⟩
  obtain ⟨e1, e2⟩ := flatP_at hk
  have j1 := (List.getElem?_eq_some_iff.1 e1).1
  have j2 := (List.getElem?_eq_some_iff.1 e2).1
  have hxs : (flatP (prOf pre)).length = pre.length * 2 := by rw [flatP_len, hl]
  rw [← q7, List.getElem?_take_of_lt (by omega)] at e1 e2
  exact ⟨blk_cell q3 (by simpa using e1), blk_cell q3 (by simpa using e2)⟩
theorem VfS.app {x y : Int} {v' : Value} (h : VfS w0 X C N pt name pre v W) (hg : W.grownBy w2 v.ownBlock) :
  (∃ vm vo, LifeAt 93 X 0 name (lifeOf name (evsOf pre)) vm vo w2 ∧ (pre = [] → vm = .slice none 0 0)) ∧ w2.heap[C]? = some (.cells #[.int .u64 (headOf pt name pre : Int)] 99 (0, 0)) ∧ Below w0.heap.size w0 w2 := by
 obtain ⟨⟨vm, vo, h1, h2⟩, h3, h4, h5, h6⟩ := h
 have ht : ∀ k, v.ownBlock = some k → N ≤ k ∧ ∃ cs, W.heap[k]? = some (.cells cs 101 (0, 0)) := fun k hk => own_typed h4 hk
 refine ⟨⟨vm, vo, h1.grown hg (fun c => ?_) (fun k hk => ?_), h2⟩, ?_, ?_⟩
 ·have := (ht X c.symm).1; omega
 ·obtain ⟨cs, e⟩ := (ht k hk).2
  exact ⟨cs, _, _, e, by decide⟩
 ·exact (hg.block C (blk_lt h3) (fun c => by have := (ht C c.symm).1; omega)).trans h3
 ·exact h5.grown hg h5.size fun k hk => by have := (ht k hk).1; omega
theorem VfS.next {W5 W6 : World} {v' vm vo : Value} {y : Ent} (h : VfS w0 X C N pt name pre v W) (hg : W.grownBy W5 v.ownBlock) (ho : W5.ownsRow N 101 2 v' (pre.length + 1) (flatP (prOf pre) ++ [.int .i64 y.2.1, .int .i64 y.2.2.1]))
  (hl : LifeAt 93 X 0 name ((lifeOf name (evsOf pre)).add name y.1) vm vo W6) (hb : OnlyB 93 X 0 18 W5 W6) : VfS w0 X C N pt name (pre ++ [y]) v' (W6.setCell ⟨C, 0, none⟩ (.int .u64 (y.2.2.2.1 : Int))) := by
 obtain ⟨h1, h2, h3⟩ := h.app (x := 0) (y := 0) (v' := v') hg
 obtain ⟨p1, p2, p3, p4⟩ := h.pl
 have hC6 : W6.heap[C]? = some (.cells #[.int .u64 (headOf pt name pre : Int)] 99 (0, 0)) := (hb.block C (blk_lt h2) (by omega)).trans h2
 have hsz := hg.size
 refine ⟨⟨vm, vo, ?_, fun e => by simp at e⟩, ?_, ?_, ?_, ?_⟩
 ·have e : lifeOf name (evsOf (pre ++ [y])) = (lifeOf name (evsOf pre)).add name y.1 := by unfold evsOf; rw [List.map_append]; exact lifeOf_snoc _ _ _
  rw [e]
  obtain ⟨⟨cs, q1, q2⟩, q3, q4⟩ := hl
  exact ⟨⟨cs, blk_set_other q1 (by show X ≠ C; omega), q2⟩, q3.setB hC6 (by decide), q4.setB hC6 (by decide)⟩
 ·rw [headOf_snoc]
  exact blk_set hC6
 ·have e : flatP (prOf (pre ++ [y])) = flatP (prOf pre) ++ [.int .i64 y.2.1, .int .i64 y.2.2.1] := by unfold prOf; rw [List.map_append]; exact flatP_snoc _ _
  rw [e, List.length_append]
  have hq := own_only ho hb (by omega)
  obtain ⟨r1, r2⟩ := hq
  refine ⟨r1, ?_⟩
  rcases r2 with r2 | ⟨g, cap, cur, s1, s2, s3, s4⟩
  ·exact Or.inl r2
  ·exact Or.inr ⟨g, cap, cur, s1, s2, blk_set_other s3 (by show g ≠ C; omega), s4⟩
 ·exact (OnlyB.below h3 hb p1 h3.size).setCell (by show w0.heap.size ≤ C; omega) _
 ·have := hb.size
  exact ⟨p1, p2, p3, by simp; omega⟩
end
theorem grown_other {W w2 : World} {base E E2 sz n b : Nat} {v : Value} {xs : List Value} {cs : Array Value} {fr : Nat × Nat} (ho : W.ownsRow base E sz v n xs) (hg : W.grownBy w2 v.ownBlock) (h : W.heap[b]? = some (.cells cs E2 fr)) (hne : E2 ≠ E) : w2.heap[b]? = some (.cells cs E2 fr) :=
 (hg.block b (blk_lt h) (fun c => by
  obtain ⟨-, cs2, e⟩ := own_typed ho c.symm
  rw [h] at e
  simp at e
  exact hne e.2.1)).trans h
theorem new_cells2 {W : World} {cs : List Value} {t : TypeId} {n : Nat} : n * 2 ≠ 0 → ∃ p off, (some (⟨W.heap.size, 0, none⟩ : Addr)) = some ⟨p, off, none⟩ ∧ ∀ (j : Nat) (u : Value), cs[j]? = some u → (W.alloc (.cells cs.toArray t)).cell? ⟨p, off + j, none⟩ = some u := fun _ =>
 ⟨_, 0, rfl, fun j u hu => blk_cell (blk_new W _) (by rw [Nat.zero_add]; simpa using hu)⟩
theorem pr_one (x y : Int) : ∀ u ∈ [Value.int .i64 x, .int .i64 y], u.oneCell' = true := by
 intro u hu
 simp only [List.mem_cons, List.not_mem_nil, or_false] at hu
 rcases hu with rfl | rfl <;> rfl
theorem life_box (w : World) (name : ByteArray) : LifeAt 93 w.heap.size 0 name life0 (.slice none 0 0) (.slice none 0 0)
  (w.alloc (.cells #[.string name, .int .i64 0, .int .i64 0, .int .i64 0, .int .i64 0, .int .i64 0, .int .i64 0, .string ⟨#[]⟩, .string ⟨#[]⟩, .slice none 0 0, .slice none 0 0, .int .i64 0, .int .i64 0, .bool false, .int .i64 0, .int .i64 0, .int .i64 0, .bool false] 93)) := by
 refine ⟨⟨_, blk_new w _, fun j u hj => ?_⟩, SRow.nil _, SRow.nil _⟩
 rw [Nat.zero_add]
 have : lifeCs name life0 (.slice none 0 0) (.slice none 0 0) = (#[.string name, .int .i64 0, .int .i64 0, .int .i64 0, .int .i64 0, .int .i64 0, .int .i64 0, .string ⟨#[]⟩, .string ⟨#[]⟩, .slice none 0 0, .slice none 0 0, .int .i64 0, .int .i64 0, .bool false, .int .i64 0, .int .i64 0, .int .i64 0, .bool false] : Array Value).toList := rfl
 rw [this] at hj
 simpa using hj
end Go.Proofs.YtmpilgkfbibhlaaGreatDoor
namespace Go.Proofs.YtmpilgkfbibhlaaGreatDoor
open Sx Go.RowKit Mr
theorem verR_1 {pt : Nat} {bks : List Bk} {name : ByteArray} {l : List Ent} (h : secR pt bks ≠ 0) : verR pt bks name l = (0, false, secR pt bks) := by unfold verR; rw [if_pos h]
theorem verR_2 {pt : Nat} {bks : List Bk} {name : ByteArray} {l : List Ent} (h : secR pt bks = 0) (h2 : nameB name = false) : verR pt bks name l = (0, false, 2) := by unfold verR; rw [if_neg (by simp [h]), if_pos h2]
theorem verR_3 {pt : Nat} {bks : List Bk} {name : ByteArray} {l : List Ent} (h : secR pt bks = 0) (h2 : nameB name = true) (h3 : 500 < l.length) : verR pt bks name l = (0, false, 6) := by unfold verR; rw [if_neg (by simp [h]), if_neg (by simp [h2]), if_pos h3]
theorem verR_4 {pt : Nat} {bks : List Bk} {name : ByteArray} {l : List Ent} (h : secR pt bks = 0) (h2 : nameB name = true) (h3 : ¬ 500 < l.length) : verR pt bks name l = (verN pt bks name [] l, decide (verN pt bks name [] l = l.length), 0) := by unfold verR; rw [if_neg (by simp [h]), if_neg (by simp [h2]), if_neg h3]
set_option maxHeartbeats 4000000 in
set_option maxRecDepth 20000 in
theorem Verify_1 {a ab : Option Addr} {es : List Ent} {bks : List Bk} {w : World} (pt c cb : Nat) (name : ByteArray) (hE : EntAt a es w) (hB : BksAt ab bks w) (hG : Glob0 w)
  (hes : es.length ≤ 1000000 ∧ ∀ y ∈ es, y.1.2.2.2.2.1.size ≤ 100 ∧ y.1.2.2.2.2.2.size ≤ 100) (hbl : bks.length ≤ 1000000 ∧ ∀ bk ∈ bks, bk.2.length ≤ 1000000) (hnm : name.size ≤ 1000) (h1 : secR pt bks ≠ 0) :
  Calls Tryz.prog 12 #[.int .u64 (pt : Int), .slice ab bks.length cb, .string name, .slice a es.length c] w fun e w' => e = .returned (verV (verR pt bks name es)) ∧ Below w.heap.size w w' := by
 have CS := Lib.hid (Secrets_any pt cb hB hbl)
 rw [verR_1 h1]
 unfold verV
 have hr : (secR pt bks == 0) = false := by simpa using h1
 generalize secR pt bks = r at *
 clear hE hB hG hes hbl hnm h1
 go_enter Tryz.func12, Tryz.ntmps12
 go_wp2_with (go_at_call 38; refine CS.out.mono ?_; rintro e w1 ⟨rfl, hb1⟩)
 exact bodyPost_ret (v := .tuple #[.int .i64 0, .bool false, .int .i64 r]) (by simp only [results, Tryz.results12]; go_simp) rfl ⟨rfl, hb1⟩
set_option maxHeartbeats 4000000 in
set_option maxRecDepth 20000 in
theorem Verify_2 {a ab : Option Addr} {es : List Ent} {bks : List Bk} {w : World} (pt c cb : Nat) (name : ByteArray) (hE : EntAt a es w) (hB : BksAt ab bks w) (hG : Glob0 w)
  (hes : es.length ≤ 1000000 ∧ ∀ y ∈ es, y.1.2.2.2.2.1.size ≤ 100 ∧ y.1.2.2.2.2.2.size ≤ 100) (hbl : bks.length ≤ 1000000 ∧ ∀ bk ∈ bks, bk.2.length ≤ 1000000) (hnm : name.size ≤ 1000) (h1 : secR pt bks = 0) (h2 : nameB name = false) :
  Calls Tryz.prog 12 #[.int .u64 (pt : Int), .slice ab bks.length cb, .string name, .slice a es.length c] w fun e w' => e = .returned (verV (verR pt bks name es)) ∧ Below w.heap.size w w' := by
 have CS := Lib.hid (Secrets_any pt cb hB hbl)
 have CN := Lib.hid (fun W => isName_any name W (by omega))
 rw [verR_2 h1 h2]
 unfold verV
 rw [h1] at CS
 rw [h2] at CN
 clear hE hB hG hes hbl hnm h1 h2
 go_enter Tryz.func12, Tryz.ntmps12
 go_wp2_with (first | (go_at_call 38; refine CS.out.mono ?_; rintro e w1 ⟨rfl, hb1⟩) | (go_at_call 39; refine (CN.out _).mono ?_; rintro e w2 ⟨rfl, hb2⟩))
 exact bodyPost_ret (v := .tuple #[.int .i64 0, .bool false, .int .i64 2]) (by simp only [results, Tryz.results12]; go_simp) rfl ⟨rfl, bStep hb1 hb2⟩
set_option maxHeartbeats 4000000 in
set_option maxRecDepth 20000 in
theorem Verify_3 {a ab : Option Addr} {es : List Ent} {bks : List Bk} {w : World} (pt c cb : Nat) (name : ByteArray) (hE : EntAt a es w) (hB : BksAt ab bks w) (hG : Glob0 w)
  (hes : es.length ≤ 1000000 ∧ ∀ y ∈ es, y.1.2.2.2.2.1.size ≤ 100 ∧ y.1.2.2.2.2.2.size ≤ 100) (hbl : bks.length ≤ 1000000 ∧ ∀ bk ∈ bks, bk.2.length ≤ 1000000) (hnm : name.size ≤ 1000) (h1 : secR pt bks = 0) (h2 : nameB name = true) (h3 : 500 < es.length) :
  Calls Tryz.prog 12 #[.int .u64 (pt : Int), .slice ab bks.length cb, .string name, .slice a es.length c] w fun e w' => e = .returned (verV (verR pt bks name es)) ∧ Below w.heap.size w w' := by
 have CS := Lib.hid (Secrets_any pt cb hB hbl)
 have CN := Lib.hid (fun W => isName_any name W (by omega))
 rw [verR_3 h1 h2 h3]
 unfold verV
 rw [h1] at CS
 rw [h2] at CN
 have h4 : (500 : Int) < es.length := by omega
 clear hE hB hG hes hbl hnm h1 h2 h3
 go_enter Tryz.func12, Tryz.ntmps12
 go_wp2_with (first | (go_at_call 38; refine CS.out.mono ?_; rintro e w1 ⟨rfl, hb1⟩) | (go_at_call 39; refine (CN.out _).mono ?_; rintro e w2 ⟨rfl, hb2⟩))
 exact bodyPost_ret (v := .tuple #[.int .i64 0, .bool false, .int .i64 6]) (by simp only [results, Tryz.results12]; go_simp) rfl ⟨rfl, bStep hb1 hb2⟩
end Go.Proofs.YtmpilgkfbibhlaaGreatDoor
