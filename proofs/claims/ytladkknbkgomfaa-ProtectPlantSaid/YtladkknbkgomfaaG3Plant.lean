/-
  Plants: the program's Move.
-/
import Derived.Test.YtladkknbkgomfaaG2Plant
import Derived.StillTailTactics
import Derived.Deep.MidRow
set_option linter.unusedSimpArgs false
set_option linter.unusedVariables false
namespace Go.Proofs.Ytladkknbkgomfaa
open Go.RowKit Mr
def set3 (t : T3) (i : Nat) (b : Bool) : T3 := if i = 0 then (b, t.2.1, t.2.2) else if i = 1 then (t.1, b, t.2.2) else (t.1, t.2.1, b)
theorem at3_set {t : T3} {i j : Nat} {b : Bool} (hi : i < 3) (hj : j < 3) : at3 (set3 t i b) j = if j = i then b else at3 t j := by
  have h1 : i = 0 ∨ i = 1 ∨ i = 2 := by omega
  have h2 : j = 0 ∨ j = 1 ∨ j = 2 := by omega
  rcases h1 with rfl | rfl | rfl <;> rcases h2 with rfl | rfl | rfl <;> rfl
section
variable {l : List Brk} {D : List T3} {lag : Nat} {sh sh' : T3} {fi fi' : Bool} {wp : Nat → Option Nat} {k : Nat}
theorem plF_congr (h1 : k = 1 → fi = fi') (h2 : ∀ q, k = 73 + q → q < 3 → at3 sh q = at3 sh' q) : plF l D lag sh fi wp k = plF l D lag sh' fi' wp k := by
  unfold plF
  by_cases c0 : k = 0
  · rw [if_pos c0, if_pos c0]
  rw [if_neg c0, if_neg c0]
  by_cases c1 : k = 1
  · rw [if_pos c1, if_pos c1, h1 c1]
  rw [if_neg c1, if_neg c1]
  by_cases c2 : k < 65
  · rw [if_pos c2, if_pos c2]
  rw [if_neg c2, if_neg c2]
  by_cases c3 : k = 65
  · rw [if_pos c3, if_pos c3]
  rw [if_neg c3, if_neg c3]
  by_cases c4 : k = 66
  · rw [if_pos c4, if_pos c4]
  rw [if_neg c4, if_neg c4]
  by_cases c5 : k < 70
  · rw [if_pos c5, if_pos c5]
  rw [if_neg c5, if_neg c5]
  by_cases c6 : k < 73
  · rw [if_pos c6, if_pos c6]
  rw [if_neg c6, if_neg c6]
  by_cases c7 : k < 76
  · rw [if_pos c7, if_pos c7, h2 (k - 73) (by omega) (by omega)]
  rw [if_neg c7, if_neg c7]
theorem plF_sh73 {q : Nat} (hq : q < 3) : plF l D lag sh fi wp (73 + q) = .bool (at3 sh q) := by
  have h1 : q = 0 ∨ q = 1 ∨ q = 2 := by omega
  rcases h1 with rfl | rfl | rfl <;> rfl
theorem plF_sh {i : Nat} {b : Bool} (hi : i < 3) : updF (plF l D lag sh fi wp) (73 + i) (.bool b) k = plF l D lag (set3 sh i b) fi wp k := by
  by_cases c : k = 73 + i
  · subst c; rw [updF_at, plF_sh73 hi, at3_set hi hi, if_pos rfl]
  · rw [updF_ne c]
    exact plF_congr (fun _ => rfl) fun q hq hq3 => by rw [at3_set hi hq3, if_neg (by omega)]
theorem plF_fi {b : Bool} : updF (plF l D lag sh fi wp) 1 (.bool b) k = plF l D lag sh b wp k := by
  by_cases c : k = 1
  · subst c; rw [updF_at]; rfl
  · rw [updF_ne c]; exact plF_congr (fun e => absurd e c) fun _ _ _ => rfl
def t3L (t : T3) : List Value := [.bool t.1, .bool t.2.1, .bool t.2.2]
/-- The ring, when the next drive has been written; the place, when it has gone on. -/
theorem plF_ring {d : T3} (hk : k < 88) (hl : lag ≤ 20) :
    updF (fun k => if 2 + D.length % (lag + 1) * 3 ≤ k ∧ k < 2 + D.length % (lag + 1) * 3 + (t3L d).length then (t3L d).getD (k - (2 + D.length % (lag + 1) * 3)) undef else plF l D lag sh fi wp k) 65 (.int .i64 (((D.length + 1) % (lag + 1) : Nat) : Int)) k = plF l (D ++ [d]) lag sh fi wp k := by
  have ha := Nat.mod_lt D.length (show 0 < lag + 1 by omega)
  have hlen : (t3L d).length = 3 := rfl
  rw [hlen]
  by_cases c3 : k = 65
  · subst c3
    rw [updF_at]
    show _ = Value.int .i64 (((D ++ [d]).length % (lag + 1) : Nat) : Int)
    rw [List.length_append]; rfl
  rw [updF_ne c3]
  by_cases c2 : k < 65
  · by_cases c0 : k = 0
    · subst c0; rw [if_neg (by omega)]; rfl
    by_cases c1 : k = 1
    · subst c1; rw [if_neg (by omega)]; rfl
    have e1 : plF l (D ++ [d]) lag sh fi wp k = .bool (at3 (ringW (D ++ [d]) lag ((k - 2) / 3)) ((k - 2) % 3)) := by
      unfold plF; rw [if_neg c0, if_neg c1, if_pos c2]
    have e2 : plF l D lag sh fi wp k = .bool (at3 (ringW D lag ((k - 2) / 3)) ((k - 2) % 3)) := by
      unfold plF; rw [if_neg c0, if_neg c1, if_pos c2]
    rw [e1, e2]
    have hd := Nat.div_add_mod (k - 2) 3
    have hm := Nat.mod_lt (k - 2) (show 0 < 3 by omega)
    unfold ringW
    by_cases cj : (k - 2) / 3 ≤ lag
    · rw [if_pos cj, if_pos cj, ringV_put d (by omega) (by omega)]
      by_cases ce : (k - 2) / 3 = D.length % (lag + 1)
      · rw [if_pos ce, if_pos (by omega), show k - (2 + D.length % (lag + 1) * 3) = (k - 2) % 3 by omega]
        have h3 : (k - 2) % 3 = 0 ∨ (k - 2) % 3 = 1 ∨ (k - 2) % 3 = 2 := by omega
        rcases h3 with e | e | e <;> rw [e] <;> rfl
      · rw [if_neg ce, if_neg (by omega)]
    · rw [if_neg cj, if_neg cj, if_neg (by omega)]
  rw [if_neg (by omega)]
  unfold plF
  have c0 : ¬ k = 0 := by omega
  have c1 : ¬ k = 1 := by omega
  simp only [if_neg c0, if_neg c1, if_neg c2, if_neg c3]
end
/-- The drive that the contactors follow. -/
def oldT (D : List T3) (d : T3) (lag : Nat) : T3 := if lag ≤ D.length then (D ++ [d]).getD (D.length - lag) f3 else f3
theorem oldT_ring {D : List T3} {d : T3} {lag : Nat} : ringW (D ++ [d]) lag ((D.length + 1) % (lag + 1)) = oldT D d lag := by
  have := Nat.mod_lt (D.length + 1) (show 0 < lag + 1 by omega)
  unfold ringW oldT
  rw [if_pos (by omega), ringV_old]
/-- The plant's block, while a call writes into it. -/
structure PS (w1 : World) (P : Nat) (f : Nat → Value) (W : World) : Prop where
  kp : KeepX (fun k => k = P) w1 W
  fb : W.heap[P]? = some (fO 88 f 77)
section
variable {w1 W w2 : World} {P : Nat} {f g : Nat → Value}
theorem PS.step (h : PS w1 P f W) (hb : Below W.heap.size W w2) : PS w1 P f w2 := ⟨h.kp.step hb, blk_step h.fb hb⟩
theorem PS.set (h : PS w1 P f W) (k : Nat) (v : Value) : PS w1 P (updF f k v) (W.setCell ⟨P, k, none⟩ v) := ⟨h.kp.set (Or.inl rfl), fb_set h.fb⟩
theorem PS.ext (h : PS w1 P f W) (he : ∀ k, k < 88 → f k = g k) : PS w1 P g W := ⟨h.kp, fb_ext h.fb he⟩
theorem KeepX.sets {S : Nat → Prop} {w : World} {P : Nat} : ∀ (vs : List Value) (o : Nat) {W : World}, KeepX S w W → (S P ∨ w.heap.size ≤ P) → KeepX S w (W.setCells P o vs)
  | [], _, _, h, _ => h
  | v :: vs, o, _, h, hb => KeepX.sets vs (o + 1) (h.set (o := o) (u := v) hb) hb
theorem PS.sets (h : PS w1 P f W) (o : Nat) (vs : List Value) : PS w1 P (fun k => if o ≤ k ∧ k < o + vs.length then vs.getD (k - o) undef else f k) (W.setCells P o vs) := ⟨KeepX.sets vs o h.kp (Or.inl rfl), fb_sets vs o h.fb⟩
theorem PS.cell (h : PS w1 P f W) {k : Nat} (hk : k < 88) : W.cell? ⟨P, k, none⟩ = some (f k) := fb_cell h.fb hk
theorem PS.range (h : PS w1 P f W) {o : Nat} {vs : List Value} (hv : ∀ j v, vs[j]? = some v → o + j < 88 ∧ f (o + j) = v) : W.rangeAt P o vs := fun j v hj => by
  obtain ⟨h1, h2⟩ := hv j v hj
  rw [h.cell h1, h2]
end
/-- The first contactors have moved. -/
def mixT (i : Nat) (a b : T3) : T3 := (if 0 < i then a.1 else b.1, if 1 < i then a.2.1 else b.2.1, if 2 < i then a.2.2 else b.2.2)
theorem mixT_next {i : Nat} (hi : i < 3) (a b : T3) : set3 (mixT i a b) i (at3 a i) = mixT (i + 1) a b := by
  have h1 : i = 0 ∨ i = 1 ∨ i = 2 := by omega
  rcases h1 with rfl | rfl | rfl <;> rfl
theorem mixT_at {i : Nat} (hi : i < 3) (a b : T3) : at3 (mixT i a b) i = at3 b i := by
  have h1 : i = 0 ∨ i = 1 ∨ i = 2 := by omega
  rcases h1 with rfl | rfl | rfl <;> rfl
theorem ring_at {l : List Brk} {D : List T3} {lag : Nat} {sh : T3} {fi : Bool} {wp : Nat → Option Nat} {j : Nat} (hj : j ≤ lag) (hl : lag ≤ 20) : ∀ q v, (t3L (ringV D (lag + 1) j))[q]? = some v → 2 + j * 3 + q < 88 ∧ plF l D lag sh fi wp (2 + j * 3 + q) = v := fun q v hq => by
  have hq3 : q < 3 := (List.getElem?_eq_some_iff.1 hq).1
  refine ⟨by omega, ?_⟩
  unfold plF
  rw [if_neg (by omega), if_neg (by omega), if_pos (by omega), show (2 + j * 3 + q - 2) / 3 = j by omega, show (2 + j * 3 + q - 2) % 3 = q by omega]
  unfold ringW
  rw [if_pos hj]
  have h1 : q = 0 ∨ q = 1 ∨ q = 2 := by omega
  rcases h1 with rfl | rfl | rfl <;> exact Option.some.inj hq
theorem plF_70 {l : List Brk} {D : List T3} {lag : Nat} {sh : T3} {fi : Bool} {wp : Nat → Option Nat} {i : Nat} (hi : i < 3) : some (plF l D lag sh fi wp (70 + i)) = some (.bool (hasB 4 (i : Int) l).1) := by
  have h1 : i = 0 ∨ i = 1 ∨ i = 2 := by omega
  rcases h1 with rfl | rfl | rfl <;> rfl
theorem plF_67 {l : List Brk} {D : List T3} {lag : Nat} {sh : T3} {fi : Bool} {wp : Nat → Option Nat} {i : Nat} (hi : i < 3) : some (plF l D lag sh fi wp (67 + i)) = some (.bool (hasB 3 (i : Int) l).1) := by
  have h1 : i = 0 ∨ i = 1 ∨ i = 2 := by omega
  rcases h1 with rfl | rfl | rfl <;> rfl
theorem t3_at {o : T3} {i : Nat} (hi : i < 3) : (#[Value.bool o.1, .bool o.2.1, .bool o.2.2])[i]? = some (.bool (at3 o i)) := by
  have h1 : i = 0 ∨ i = 1 ∨ i = 2 := by omega
  rcases h1 with rfl | rfl | rfl <;> rfl
theorem moveT_at {l : List Brk} {o sh : T3} {i : Nat} (hi : i < 3) : at3 (moveT l o sh) i = shutI (hasB 3 (i : Int) l).1 (hasB 4 (i : Int) l).1 (at3 o i) (at3 sh i) := by
  have h1 : i = 0 ∨ i = 1 ∨ i = 2 := by omega
  rcases h1 with rfl | rfl | rfl <;> rfl
theorem t3L_one (t : T3) : (t3L t).toArray.all (·.oneCell') = true := all_oneCell_toArray fun v hv => by
  simp only [t3L, List.mem_cons, List.not_mem_nil, or_false] at hv
  rcases hv with rfl | rfl | rfl <;> rfl
theorem fb_there_mid {W : World} {b n o m : Nat} {f : Nat → Value} {T : TypeId} (h : W.heap[b]? = some (fO n f T)) (hm : o + m ≤ n) : W.there b o m := fun j hj => by
  have := fb_cell h (show o + j < n by omega)
  exact ⟨by rw [this]; rfl, fb_free h⟩
theorem size3 : (Try.prog.info? 39).map (·.size) = some 3 := by kernel_rfl
/-- The region that copies the oldest drive. -/
structure R3 (w1 : World) (P : Nat) (f : Nat → Value) (o : T3) (b0 b1 : Bool) (v0 : Value) (W : World) : Prop where
  ps : PS w1 P f W
  bx : b0 = true → ∃ r, v0 = .pointer (some ⟨r, 0, none⟩) ∧ w1.heap.size ≤ r ∧ W.heap[r]? = some (.cells (if b1 = true then #[.bool o.1, .bool o.2.1, .bool o.2.2] else #[.bool false, .bool false, .bool false]) 39 (0, 0))
  i1 : b1 = true → b0 = true
theorem R3.mk0 {w1 W : World} {P : Nat} {f : Nat → Value} {o : T3} {b1 : Bool} {v0 : Value} (h : R3 w1 P f o false b1 v0 W) : R3 w1 P f o true b1 (.pointer (some ⟨W.heap.size, 0, none⟩)) (W.alloc (.cells #[.bool false, .bool false, .bool false] 39)) := by
  cases b1 with
  | true => exact absurd (h.i1 rfl) (by decide)
  | false => exact ⟨h.ps.step bAl, fun _ => ⟨_, rfl, h.ps.kp.size, blk_new W _⟩, fun e => by cases e⟩
theorem R3.mk1 {w1 W : World} {P r : Nat} {f : Nat → Value} {o : T3} {v0 : Value} (h : R3 w1 P f o true false v0 W) (h1 : w1.heap.size ≤ r) (h2 : W.heap[r]? = some (.cells (if false = true then #[.bool o.1, .bool o.2.1, .bool o.2.2] else #[.bool false, .bool false, .bool false]) 39 (0, 0))) (hP : P < w1.heap.size) : R3 w1 P f o true true (.pointer (some ⟨r, 0, none⟩)) (((W.setCell ⟨r, 0, none⟩ (.bool o.1)).setCell ⟨r, 1, none⟩ (.bool o.2.1)).setCell ⟨r, 2, none⟩ (.bool o.2.2)) := by
  have hne : P ≠ r := by omega
  refine ⟨⟨((h.ps.kp.set (Or.inr h1)).set (Or.inr h1)).set (Or.inr h1), blk_set_other (blk_set_other (blk_set_other h.ps.fb hne) hne) hne⟩, fun _ => ⟨r, rfl, h1, ?_⟩, fun _ => rfl⟩
  exact (blk_set (blk_set (blk_set h2))).trans rfl
set_option maxHeartbeats 4000000 in
set_option maxRecDepth 20000 in
theorem cmove_any {N M P : Nat} {l : List Brk} {D : List T3} {lag : Nat} {sh : T3} {fi : Bool} {wp : Nat → Option Nat} {w : World} (h : PlAt N M P l D lag sh fi wp w) (hl : lag ≤ 20) (d : T3) : Calls Try.prog 24 #[.pointer (some ⟨P, 2, none⟩), t3A d] w fun e w' => e = .returned (.tuple #[]) ∧ PS w P (plF l (D ++ [d]) lag (moveT l (oldT D d lag) sh) fi wp) w' := by
  have S0 := Lib.hid (show PS (w.alloc (.cells #[.bool d.1, .bool d.2.1, .bool d.2.2] 39)) P (plF l D lag sh fi wp) (w.alloc (.cells #[.bool d.1, .bool d.2.1, .bool d.2.2] 39)) from ⟨KeepX.refl, blk_step h.fb bAl⟩)
  have HP := Lib.hid h.lt
  have hd0 := blk_new w (.cells #[.bool d.1, .bool d.2.1, .bool d.2.2] 39)
  have HX := Lib.hid hd0
  have ha := Nat.mod_lt D.length (show 0 < lag + 1 by omega)
  have ha2 := Nat.mod_lt (D.length + 1) (show 0 < lag + 1 by omega)
  have HR := Lib.hid (fun (k : Nat) (hk : k < 88) => plF_ring (l := l) (D := D) (lag := lag) (sh := sh) (fi := fi) (wp := wp) (d := d) hk hl)
  have x65 := S0.out.cell (show 65 < 88 by decide)
  have x66 := S0.out.cell (show 66 < 88 by decide)
  replace x66 : (w.alloc (.cells #[.bool d.1, .bool d.2.1, .bool d.2.2] 39)).cell? ⟨P, 66, none⟩ = some (.int .i64 (lag : Int)) := x66
  have e0 := blk_cell (o := 0) hd0 rfl
  have e1 := blk_cell (o := 1) hd0 rfl
  have e2 := blk_cell (o := 2) hd0 rfl
  have l1 := blk_lt hd0
  have l2 := blk_lt S0.out.fb
  replace x65 : (w.alloc (.cells #[.bool d.1, .bool d.2.1, .bool d.2.2] 39)).cell? ⟨P, 65, none⟩ = some (.int .i64 ((D.length % (lag + 1) : Nat) : Int)) := x65
  have HO := Lib.hid (oldT_ring (D := D) (d := d) (lag := lag))
  have hq : Int.tmod (((D.length % (lag + 1) : Nat) : Int) + 1) ((lag : Int) + 1) = (((D.length + 1) % (lag + 1) : Nat) : Int) := by
    rw [Int.tmod_eq_emod_of_nonneg (by omega)]
    have : (D.length % (lag + 1) + 1) % (lag + 1) = (D.length + 1) % (lag + 1) := by rw [Nat.mod_add_mod]
    rw [← this]; rfl
  generalize hA : D.length % (lag + 1) = a at *
  generalize hA2 : (D.length + 1) % (lag + 1) = a' at *
  generalize hW : w.alloc (.cells #[.bool d.1, .bool d.2.1, .bool d.2.2] 39) = W1 at *
  clear hd0 h
  unfold t3A
  go_enter Try.func24, Try.ntmps24
  go_wp2_with fail
  have b1 : (a : Int) < 21 := by omega
  have b0 : (0 : Int) ≤ a := by omega
  go_still_tail 9, (by kernel_rfl)
  change wpList _ _ _ _ _ W1.drew
  refine wpList_store_mid rfl 39 (.tmp 14) (.tmp 11) rfl P (2 + a * 3) (t3L d).toArray rfl rfl (fb_there_mid (show W1.drew.heap[P]? = _ from S0.out.fb) (by show 2 + a * 3 + 3 ≤ 88; omega)) size3 (t3L_one d) ?_
  change wpList _ _ _ _ _ (W1.drew.setCells P (2 + a * 3) (t3L d))
  have S1 := Lib.hid ((S0.out.step (Below.refl _ _).drew).sets (2 + a * 3) (t3L d))
  have HX1 := Lib.hid (setCells_other (t3L d) (2 + a * 3) (show W1.drew.heap[w.heap.size]? = _ from HX.out) (show w.heap.size ≠ P by have := HP.out; omega))
  have n65 : ¬ (2 + a * 3 ≤ 65 ∧ 65 < 2 + a * 3 + (t3L d).length) := by show ¬ (_ ∧ 65 < 2 + a * 3 + 3); omega
  have n66 : ¬ (2 + a * 3 ≤ 66 ∧ 66 < 2 + a * 3 + (t3L d).length) := by show ¬ (_ ∧ 66 < 2 + a * 3 + 3); omega
  have y65 := (S1.out.cell (show 65 < 88 by decide)).trans (congrArg some (if_neg n65))
  have y66 := (S1.out.cell (show 66 < 88 by decide)).trans (congrArg some (if_neg n66))
  generalize W1.drew.setCells P (2 + a * 3) (t3L d) = W2 at *
  have g65 : plF l D lag sh fi wp 65 = .int .i64 (a : Int) := by rw [← hA]; rfl
  have g66 : plF l D lag sh fi wp 66 = .int .i64 (lag : Int) := rfl
  rw [g65] at y65
  rw [g66] at y66
  have z65 := fb_free (k := 65) S1.out.fb
  have lP := blk_lt S1.out.fb
  clear g65 g66 n65 n66 e0 e1 e2 l1 l2 x65 x66 HX
  have m1 : IntKind.i64.wrap ((a : Int) + 1) = (a : Int) + 1 := Go.IntWalk.i64_in _ ⟨by omega, by omega⟩
  have m2 : IntKind.i64.wrap ((lag : Int) + 1) = (lag : Int) + 1 := Go.IntWalk.i64_in _ ⟨by omega, by omega⟩
  have m4 : ¬ (lag : Int) + 1 = 0 := by omega
  go_wp2_with fail
  go_still_tail 14, (by kernel_rfl)
  change wpList _ _ _ _ _ W2.drew
  have S2 := Lib.hid (((S1.out.set 65 (.int .i64 (a' : Int))).step (Below.refl _ _).drew).ext HR.out)
  clear S1 HX1 HR S0
  have v65 : W2.drew.cell? ⟨P, 65, none⟩ = some (.int .i64 (a : Int)) := y65
  have u65 : W2.drew.frozen? ⟨P, 65, none⟩ = false := z65
  go_wp2_with fail
  generalize (W2.setCell ⟨P, 65, none⟩ (.int .i64 (a' : Int))).drew = W3 at *
  have HWB := Lib.hid (show Below w.heap.size w W1 by rw [← hW]; exact bAl)
  have HL := Lib.hid (show P < W1.heap.size by rw [← hW]; have := HP.out; simp; omega)
  clear y65 y66 z65 lP m1 m2 m4 v65 u65 hq b1 b0 hW
  have b1 : (a' : Int) < 21 := by omega
  have b0 : (0 : Int) ≤ a' := by omega
  have HG := Lib.hid (ring_at (l := l) (D := D ++ [d]) (lag := lag) (sh := sh) (fi := fi) (wp := wp) (j := a') (by omega) hl)
  have HF65 : Hid (plF l (D ++ [d]) lag sh fi wp 65 = .int .i64 (a' : Int)) := by show Value.int .i64 (((D ++ [d]).length % (lag + 1) : Nat) : Int) = _; rw [List.length_append, ← hA2]; rfl
  rw [show ringV (D ++ [d]) (lag + 1) a' = oldT D d lag by rw [← HO.out]; unfold ringW; rw [if_pos (by omega)]] at HG
  clear hA hA2 ha HO
  obtain ⟨o, ho⟩ : ∃ o, oldT D d lag = o := ⟨_, rfl⟩
  rw [ho] at HG
  have HOO := Lib.hid ho
  clear ho
  generalize hF : plF l (D ++ [d]) lag sh fi wp = F at *
  refine region_all 11 8 75 [(9, 4), (10, 76)] [(none, []), (none, []), (none, []), (none, []), (none, []), (none, []), (none, []), (none, []), (none, []), (some 0, []), (some 1, [0])] [(29, (.pointer (some ⟨P, 2, none⟩))), (30, (.pointer (some ⟨P, 2, none⟩))), (31, (.pointer (some ⟨P, 2, none⟩))), (32, (.pointer (some ⟨P, 65, none⟩))), (33, (.int .i64 (a' : Int))), (34, (.pointer (some ⟨P, 2, none⟩))), (35, (.pointer (some ⟨P, 2, none⟩))), (36, (.pointer (some ⟨P, 2 + a' * 3, none⟩))), (37, (.agg #[.bool o.1, .bool o.2.1, .bool o.2.2]))] (fun bsE vsE W => R3 W1 P F o (bsE.getD 0 false) (bsE.getD 1 false) ((vsE.getD 0 undef)) W) (by kernel_rfl) (by kernel_rfl) rfl rfl (by kernel_rfl) (by rfl) ?h0 ?each ?done
  case h0 =>
    intro vsE hlv
    obtain ⟨v0, vsE0, rfl, hlv0⟩ := len_one hlv
    obtain ⟨v1, vsE1, rfl, hlv1⟩ := len_one hlv0
    obtain rfl := len_nil hlv1
    exact ⟨S2.out.step (Below.refl _ _).drew, (fun e => by cases e), (fun e => by cases e)⟩
  case each =>
    simp only [AllE]
    refine ⟨⟨29, (.pointer (some ⟨P, 2, none⟩)), rfl, by kernel_rfl, ?_⟩, ⟨30, (.pointer (some ⟨P, 2, none⟩)), rfl, by kernel_rfl, ?_⟩, ⟨31, (.pointer (some ⟨P, 2, none⟩)), rfl, by kernel_rfl, ?_⟩, ⟨32, (.pointer (some ⟨P, 65, none⟩)), rfl, by kernel_rfl, ?_⟩, ⟨33, (.int .i64 (a' : Int)), rfl, by kernel_rfl, ?_⟩, ⟨34, (.pointer (some ⟨P, 2, none⟩)), rfl, by kernel_rfl, ?_⟩, ⟨35, (.pointer (some ⟨P, 2, none⟩)), rfl, by kernel_rfl, ?_⟩, ⟨36, (.pointer (some ⟨P, 2 + a' * 3, none⟩)), rfl, by kernel_rfl, ?_⟩, ⟨37, (.agg #[.bool o.1, .bool o.2.1, .bool o.2.2]), rfl, by kernel_rfl, ?_⟩, Or.inl ⟨4, rfl, ?q1_9⟩, Or.inr ⟨rfl, ?q1_10⟩, trivial⟩
    case q1_9 =>
      intro bsE vsE W hlb hlv hnd hbk h
      obtain ⟨b0, bsE0, rfl, hlb0⟩ := len_one hlb
      obtain ⟨v0, vsE0, rfl, hlv0⟩ := len_one hlv
      obtain ⟨b1, bsE1, rfl, hlb1⟩ := len_one hlb0
      obtain ⟨v1, vsE1, rfl, hlv1⟩ := len_one hlv0
      obtain rfl := len_nil hlb1
      obtain rfl := len_nil hlv1
      obtain rfl : b0 = false := hbk
      replace h : R3 W1 P F o false b1 (v0) W := h
      clear hnd
      have HST := Lib.hid h
      skip
      intro K Q hK
      simp only [putE, updAll, Act.put, List.setIfInBounds_toArray, List.set_cons_zero, List.set_cons_succ, List.set_nil] at hK ⊢
      go_wp2_with fail
      all_goals (first | exact hK _ _ h.mk0 | exact h.mk0)
    case q1_10 =>
      intro bsE vsE W hlb hlv hnd hbk h
      obtain ⟨b0, bsE0, rfl, hlb0⟩ := len_one hlb
      obtain ⟨v0, vsE0, rfl, hlv0⟩ := len_one hlv
      obtain ⟨b1, bsE1, rfl, hlb1⟩ := len_one hlb0
      obtain ⟨v1, vsE1, rfl, hlv1⟩ := len_one hlv0
      obtain rfl := len_nil hlb1
      obtain rfl := len_nil hlv1
      obtain rfl : b0 = true := hnd 0 (by simp)
      obtain rfl : b1 = false := hbk
      replace h : R3 W1 P F o true false (v0) W := h
      clear hnd
      have HST := Lib.hid h
      obtain ⟨r, er, hr1, hr2⟩ := h.bx rfl; subst er; have q0 := blk_cell (o := 0) hr2 rfl; have q1 := blk_cell (o := 1) hr2 rfl; have q2 := blk_cell (o := 2) hr2 rfl; have p0 := blk_free (o := 0) hr2; have p1 := blk_free (o := 1) hr2; have p2 := blk_free (o := 2) hr2; have lr := blk_lt hr2; have hm := h.mk1 hr1 hr2 HL.out
      intro K Q hK
      simp only [putE, updAll, Act.put, List.setIfInBounds_toArray, List.set_cons_zero, List.set_cons_succ, List.set_nil] at hK ⊢
      go_wp2_with fail
      all_goals (first | exact hK _ hm | exact hm)
    all_goals
      intro bsE vsE W hlb hlv hnd h
      obtain ⟨b0, bsE0, rfl, hlb0⟩ := len_one hlb
      obtain ⟨v0, vsE0, rfl, hlv0⟩ := len_one hlv
      obtain ⟨b1, bsE1, rfl, hlb1⟩ := len_one hlb0
      obtain ⟨v1, vsE1, rfl, hlv1⟩ := len_one hlv0
      obtain rfl := len_nil hlb1
      obtain rfl := len_nil hlv1
      replace h : R3 W1 P F o b0 b1 (v0) W := h
      clear hnd
      have HST := Lib.hid h
      have x65 := h.ps.cell (show 65 < 88 by decide); rw [HF65.out] at x65; have lP := blk_lt h.ps.fb; have c0 : W.cell? ⟨P, 2 + a' * 3, none⟩ = some (.bool o.1) := h.ps.range HG.out 0 _ rfl; have c1 : W.cell? ⟨P, 2 + a' * 3 + 1, none⟩ = some (.bool o.2.1) := h.ps.range HG.out 1 _ rfl; have c2 : W.cell? ⟨P, 2 + a' * 3 + 2, none⟩ = some (.bool o.2.2) := h.ps.range HG.out 2 _ rfl
      intro K Q hK
      simp only [putE, updAll, Act.put, List.setIfInBounds_toArray, List.set_cons_zero, List.set_cons_succ, List.set_nil] at hK ⊢
      go_wp2_with (fail)
      all_goals (first | exact hK _ h | exact h)
  case done =>
    intro vsE W hlv h
    obtain ⟨v0, vsE0, rfl, hlv0⟩ := len_one hlv
    obtain ⟨v1, vsE1, rfl, hlv1⟩ := len_one hlv0
    obtain rfl := len_nil hlv1
    replace h : R3 W1 P F o true true (v0) W := h
    have HST := Lib.hid h
    have HS := Lib.hid h
    clear h HST
    simp only [putE, updAll, Act.put, List.setIfInBounds_toArray, List.set_cons_zero, List.set_cons_succ, List.set_nil]
    obtain ⟨r, er, hr1, hr2⟩ := HS.out.bx rfl
    subst er
    rw [if_pos rfl] at hr2
    have S3 := Lib.hid HS.out.ps
    have HR2 := Lib.hid hr2
    have HNE := Lib.hid (show r ≠ P by have := HL.out; omega)
    clear hr1 hr2 HS S2 HG HF65 b1 b0 hlv hlv0 hlv1
    subst hF
    go_wp2_with fail
    go_loopw [38] (fun ix wr => ∃ i : Nat, i ≤ 3 ∧ ix = .int .i64 i ∧ Hid (PS W1 P (plF l (D ++ [d]) lag (mixT i (moveT l o sh) sh) fi wp) wr ∧ wr.heap[r]? = some (.cells #[.bool o.1, .bool o.2.1, .bool o.2.2] 39 (0, 0)))) (fun ix _ => 3 - (intOf ix).toNat)
    case atStart => exact ⟨0, by omega, rfl, S3.out.ext fun k _ => plF_congr (fun _ => rfl) fun q _ _ => rfl, HR2.out⟩
    case round =>
      obtain ⟨i, hi, rfl, HS⟩ := hrel
      by_cases hc : i < 3
      · have c1 : (i : Int) < 3 := by omega
        have c0 : (0 : Int) ≤ i := by omega
        have l3 : wr.frozen? ⟨P, 73 + i, none⟩ = false := fb_free HS.out.1.fb
        have x73 : wr.cell? ⟨P, 73 + i, none⟩ = some (.bool (at3 sh i)) := (HS.out.1.cell (show 73 + i < 88 by omega)).trans (by rw [plF_sh73 hc, mixT_at hc])
        have x70 : wr.cell? ⟨P, 70 + i, none⟩ = some (.bool (hasB 4 (i : Int) l).1) := (HS.out.1.cell (show 70 + i < 88 by omega)).trans (plF_70 hc)
        have x67 : wr.cell? ⟨P, 67 + i, none⟩ = some (.bool (hasB 3 (i : Int) l).1) := (HS.out.1.cell (show 67 + i < 88 by omega)).trans (plF_67 hc)
        have xr : wr.cell? ⟨r, i, none⟩ = some (.bool (at3 o i)) := blk_cell HS.out.2 (t3_at hc)
        have lr := blk_lt HS.out.2
        have q70 : wr.drew.cell? ⟨P, 70 + i, none⟩ = some (.bool (hasB 4 (i : Int) l).1) := x70
        have q67 : wr.drew.cell? ⟨P, 67 + i, none⟩ = some (.bool (hasB 3 (i : Int) l).1) := x67
        have q73 : wr.drew.cell? ⟨P, 73 + i, none⟩ = some (.bool (at3 sh i)) := x73
        have qr : wr.drew.cell? ⟨r, i, none⟩ = some (.bool (at3 o i)) := xr
        have q3 : wr.drew.frozen? ⟨P, 73 + i, none⟩ = false := l3
        have lP := blk_lt HS.out.1.fb
        have HV := Lib.hid (moveT_at (l := l) (o := o) (sh := sh) hc)
        generalize (hasB 4 (i : Int) l).1 = sk at *
        generalize (hasB 3 (i : Int) l).1 = wl at *
        generalize at3 o i = dr at *
        generalize at3 sh i = ws at *
        cases sk with
        | true =>
          have HVV : Hid (at3 (moveT l o sh) i = false) := HV.out.trans (by first | rfl | (cases ws <;> rfl))
          clear HV
          go_wp2_with fail
          refine wp_tail_lock 33 (by kernel_rfl) (by kernel_rfl) ?_
          simp only [List.take_succ_cons, List.take_zero, List.drop_succ_cons, List.drop_zero]
          iterate 33 (first | ((first | (refine WT.skip rfl rfl rfl ?_) | (refine WT.skipU rfl rfl rfl ?_)); simp only [Act.put, List.setIfInBounds_toArray, List.set_cons_zero, List.set_cons_succ, List.set_nil]) | ((first | (apply WT.val; (exact rfl)) | (apply WT.valg; (exact rfl); (exact rfl); (exact rfl))); (simp [go_sem, q70, q67, qr, q73, c0, c1, lP, lr]; first | done | exact rfl); simp only [Act.put, List.setIfInBounds_toArray, List.set_cons_zero, List.set_cons_succ, List.set_nil]))
          refine WT.fin ?_
          go_wp2_with fail
          refine ⟨⟨i + 1, by omega, by push_cast; rfl, ?_, ?_⟩, by simp [intOf]; omega⟩
          · exact (((HS.out.1.set (73 + i) (.bool false)).step (Below.refl _ _).drew).ext fun k hk => by rw [plF_sh hc, ← HVV.out, mixT_next hc])
          · exact blk_set_other HS.out.2 HNE.out
        | false =>
          cases dr with
          | true =>
            have HVV : Hid (at3 (moveT l o sh) i = true) := HV.out.trans (by first | rfl | (cases ws <;> rfl))
            clear HV
            go_wp2_with fail
            refine wp_tail_lock 33 (by kernel_rfl) (by kernel_rfl) ?_
            simp only [List.take_succ_cons, List.take_zero, List.drop_succ_cons, List.drop_zero]
            iterate 33 (first | ((first | (refine WT.skip rfl rfl rfl ?_) | (refine WT.skipU rfl rfl rfl ?_)); simp only [Act.put, List.setIfInBounds_toArray, List.set_cons_zero, List.set_cons_succ, List.set_nil]) | ((first | (apply WT.val; (exact rfl)) | (apply WT.valg; (exact rfl); (exact rfl); (exact rfl))); (simp [go_sem, q70, q67, qr, q73, c0, c1, lP, lr]; first | done | exact rfl); simp only [Act.put, List.setIfInBounds_toArray, List.set_cons_zero, List.set_cons_succ, List.set_nil]))
            refine WT.fin ?_
            go_wp2_with fail
            refine ⟨⟨i + 1, by omega, by push_cast; rfl, ?_, ?_⟩, by simp [intOf]; omega⟩
            · exact (((HS.out.1.set (73 + i) (.bool true)).step (Below.refl _ _).drew).ext fun k hk => by rw [plF_sh hc, ← HVV.out, mixT_next hc])
            · exact blk_set_other HS.out.2 HNE.out
          | false =>
            cases wl with
            | false =>
              have HVV : Hid (at3 (moveT l o sh) i = false) := HV.out.trans (by first | rfl | (cases ws <;> rfl))
              clear HV
              go_wp2_with fail
              refine wp_tail_lock 33 (by kernel_rfl) (by kernel_rfl) ?_
              simp only [List.take_succ_cons, List.take_zero, List.drop_succ_cons, List.drop_zero]
              iterate 33 (first | ((first | (refine WT.skip rfl rfl rfl ?_) | (refine WT.skipU rfl rfl rfl ?_)); simp only [Act.put, List.setIfInBounds_toArray, List.set_cons_zero, List.set_cons_succ, List.set_nil]) | ((first | (apply WT.val; (exact rfl)) | (apply WT.valg; (exact rfl); (exact rfl); (exact rfl))); (simp [go_sem, q70, q67, qr, q73, c0, c1, lP, lr]; first | done | exact rfl); simp only [Act.put, List.setIfInBounds_toArray, List.set_cons_zero, List.set_cons_succ, List.set_nil]))
              refine WT.fin ?_
              go_wp2_with fail
              refine ⟨⟨i + 1, by omega, by push_cast; rfl, ?_, ?_⟩, by simp [intOf]; omega⟩
              · exact (((HS.out.1.set (73 + i) (.bool false)).step (Below.refl _ _).drew).ext fun k hk => by rw [plF_sh hc, ← HVV.out, mixT_next hc])
              · exact blk_set_other HS.out.2 HNE.out
            | true =>
              have HVV : Hid (at3 (moveT l o sh) i = ws) := HV.out.trans (by first | rfl | (cases ws <;> rfl))
              clear HV
              go_wp2_with fail
              refine wp_tail_lock 33 (by kernel_rfl) (by kernel_rfl) ?_
              simp only [List.take_succ_cons, List.take_zero, List.drop_succ_cons, List.drop_zero]
              iterate 33 (first | ((first | (refine WT.skip rfl rfl rfl ?_) | (refine WT.skipU rfl rfl rfl ?_)); simp only [Act.put, List.setIfInBounds_toArray, List.set_cons_zero, List.set_cons_succ, List.set_nil]) | ((first | (apply WT.val; (exact rfl)) | (apply WT.valg; (exact rfl); (exact rfl); (exact rfl))); (simp [go_sem, q70, q67, qr, q73, c0, c1, lP, lr]; first | done | exact rfl); simp only [Act.put, List.setIfInBounds_toArray, List.set_cons_zero, List.set_cons_succ, List.set_nil]))
              refine WT.fin ?_
              go_wp2_with fail
              refine ⟨⟨i + 1, by omega, by push_cast; rfl, ?_, ?_⟩, by simp [intOf]; omega⟩
              · exact (((HS.out.1.set (73 + i) (.bool ws)).step (Below.refl _ _).drew).ext fun k hk => by rw [plF_sh hc, ← HVV.out, mixT_next hc])
              · exact blk_set_other HS.out.2 HNE.out
      · obtain rfl : i = 3 := by omega
        clear hc
        go_wp2_with fail
        refine bodyPost_end (results_none rfl _ _ _) rfl ⟨rfl, ?_⟩
        rw [HOO.out]
        have hk := HS.out.1
        have e3 : mixT 3 (moveT l o sh) sh = moveT l o sh := rfl
        rw [e3] at hk
        exact ⟨(KeepX.of_below HWB.out).trans hk.kp fun _ _ c => c, hk.fb⟩
end Go.Proofs.Ytladkknbkgomfaa
