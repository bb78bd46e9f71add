/-
  Plants: the reference's Move.
-/
import Derived.Test.YtladkknbkgomfaaG8Plant
set_option linter.unusedSimpArgs false
set_option linter.unusedVariables false
namespace Go.Proofs.Ytladkknbkgomfaa
open Go.RowKit Mr
theorem KeepX.grown {S : Nat → Prop} {w W w' : World} {row : Option Nat} (h : KeepX S w W) (hg : W.grownBy w' row) (hS : ∀ k, row = some k → S k ∨ w.heap.size ≤ k) : KeepX S w w' :=
  ⟨hg.os.trans h.os, hg.tape.trans h.tape, hg.output.trans h.output, Nat.le_trans h.size hg.size, fun k hk hn => by
    have hne : some k ≠ row := fun e => by
      rcases hS k e.symm with c | c
      · exact hn c
      · omega
    exact (hg.block k (Nat.lt_of_lt_of_le hk h.size) hne).trans (h.block k hk hn)⟩
section
variable {M Q : Nat} {l : List Brk} {A : List ActM} {lag : Nat} {sh : T3} {fi : Bool} {aL : Option Addr} {cL : Nat} {vA : Value} {w W : World}
theorem RpAt.setCell {sh' : T3} {fi' : Bool} {o : Nat} {u : Value} (h : RpAt M Q l A lag sh fi aL cL vA W) (he : (#[.int .i64 (lag : Int), .slice aL l.length cL, vA, .bool sh.1, .bool sh.2.1, .bool sh.2.2, .bool fi] : Array Value).setIfInBounds o u = #[.int .i64 (lag : Int), .slice aL l.length cL, vA, .bool sh'.1, .bool sh'.2.1, .bool sh'.2.2, .bool fi']) : RpAt M Q l A lag sh' fi' aL cL vA (W.setCell ⟨Q, o, none⟩ u) := by
  have hk : KeepX (fun k => k = Q) W (W.setCell ⟨Q, o, none⟩ u) := KeepX.refl.set (Or.inl rfl)
  refine ⟨h.hQ, by simpa using h.hM, (blk_set h.blk).trans (by rw [he]; rfl), ownsRow_setCell_other h.oA h.nA _, h.nA, fun hn => ?_⟩
  obtain ⟨b, e, h1, h2, h3, h4⟩ := h.oL hn
  exact ⟨b, e, h1, by simpa using h2, by simpa using h3, fun j v hj => hk.cell (h4 j v hj) fun c => h1 (Or.inl c)⟩
theorem RpAt.setSh {i : Nat} {b : Bool} (h : RpAt M Q l A lag sh fi aL cL vA W) (hi : i < 3) : RpAt M Q l A lag (set3 sh i b) fi aL cL vA (W.setCell ⟨Q, 3 + i, none⟩ (.bool b)) := by
  have h1 : i = 0 ∨ i = 1 ∨ i = 2 := by omega
  rcases h1 with rfl | rfl | rfl <;> exact h.setCell rfl
theorem RpAt.setFi {b : Bool} (h : RpAt M Q l A lag sh fi aL cL vA W) : RpAt M Q l A lag sh b aL cL vA (W.setCell ⟨Q, 6, none⟩ (.bool b)) := h.setCell rfl
end
def actO (a : ActM) : Obj := .cells #[.bool a.1.1, .bool a.1.2.1, .bool a.1.2.2, .bool a.2] 41 (0, 0)
/-- The region that appends an act. -/
structure RMv (w1 : World) (M Q : Nat) (l : List Brk) (A : List ActM) (a : ActM) (lag : Nat) (sh : T3) (fi : Bool) (vL vA : Value) (b0 b1 b2 b3 : Bool) (v0 v1 v2 : Value) (W : World) : Prop where
  kp : KeepX (fun k => k = Q ∨ vA.ownBlock = some k) w1 W
  i2 : b2 = true → b0 = true ∧ b1 = true
  i3 : b3 = true → b2 = true
  m0 : b0 = true → v0 = vA
  blk : W.heap[Q]? = some (rpO lag vL (if b3 = true then v2 else vA) sh fi)
  n1 : b1 = true → ∃ g, v1 = .slice (some ⟨g, 0, none⟩) 1 1 ∧ w1.heap.size ≤ g ∧ W.heap[g]? = some (actO a)
  row : if b2 = true then (W.ownsRow M 41 4 v2 (A.length + 1) (flatA (A ++ [a])) ∧ v2.ownBlock ≠ some Q ∧ (v2.ownBlock = vA.ownBlock ∨ ∃ g, v2.ownBlock = some g ∧ w1.heap.size ≤ g)) else W.ownsRow M 41 4 vA A.length (flatA A)
section
variable {w1 : World} {M Q : Nat} {l : List Brk} {A : List ActM} {a : ActM} {lag : Nat} {sh : T3} {fi : Bool} {vL vA : Value} {b0 b1 b2 b3 : Bool} {v0 v1 v2 : Value} {W W' : World}
theorem RMv.z2 (h : RMv w1 M Q l A a lag sh fi vL vA false b1 b2 b3 v0 v1 v2 W) : b2 = false := by
  cases b2 with
  | false => rfl
  | true => exact absurd (h.i2 rfl).1 (by decide)
theorem RMv.y2 (h : RMv w1 M Q l A a lag sh fi vL vA b0 false b2 b3 v0 v1 v2 W) : b2 = false := by
  cases b2 with
  | false => rfl
  | true => exact absurd (h.i2 rfl).2 (by decide)
theorem RMv.z3 (h : RMv w1 M Q l A a lag sh fi vL vA b0 b1 false b3 v0 v1 v2 W) : b3 = false := by
  cases b3 with
  | false => rfl
  | true => exact absurd (h.i3 rfl) (by decide)
theorem RMv.mk0 (h : RMv w1 M Q l A a lag sh fi vL vA false b1 false false v0 v1 v2 W) : RMv w1 M Q l A a lag sh fi vL vA true b1 false false vA v1 v2 W :=
  ⟨h.kp, (fun e => by cases e), (fun e => by cases e), fun _ => rfl, h.blk, h.n1, h.row⟩
theorem RMv.mk1 (h : RMv w1 M Q l A a lag sh fi vL vA b0 false false false v0 v1 v2 W) : RMv w1 M Q l A a lag sh fi vL vA b0 true false false v0 (.slice (some ⟨W.heap.size, 0, none⟩) 1 1) v2 (W.alloc (actO a)) :=
  ⟨h.kp.step bAl, (fun e => by cases e), (fun e => by cases e), h.m0, blk_step h.blk bAl, fun _ => ⟨_, rfl, h.kp.size, blk_new W _⟩, own_step h.row bAl⟩
theorem RMv.mk2 (h : RMv w1 M Q l A a lag sh fi vL vA true true false false v0 v1 v2 W) (hlt : ∀ k, vA.ownBlock = some k → k < w1.heap.size) (hQ : Q < w1.heap.size) (hnA : vA.ownBlock ≠ some Q) {v' : Value} (q1 : W'.ownsRow M 41 4 v' (A.length + 1) (flatA A ++ flatA [a])) (q2 : W.grownBy W' vA.ownBlock) (q3 : v'.ownBlock = vA.ownBlock ∨ v'.ownBlock = some W.heap.size) : RMv w1 M Q l A a lag sh fi vL vA true true true false v0 v1 v' W' := by
  have hs := h.kp.size
  refine ⟨h.kp.grown q2 fun k hk => Or.inl (Or.inr hk), fun _ => ⟨rfl, rfl⟩, (fun e => by cases e), h.m0, ?_, fun _ => ?_, ?_⟩
  · exact blk_grown h.blk q2 fun e => hnA e.symm
  · obtain ⟨g, e, g1, g2⟩ := h.n1 rfl
    exact ⟨g, e, g1, blk_grown g2 q2 fun e => by have := hlt g e.symm; omega⟩
  · rw [if_pos rfl]
    refine ⟨by rw [flatA_app]; exact q1, fun e => ?_, ?_⟩
    · rcases q3 with q3 | q3
      · exact hnA (q3.symm.trans e)
      · rw [q3] at e
        have := Option.some.inj e
        omega
    · rcases q3 with q3 | q3
      · exact Or.inl q3
      · exact Or.inr ⟨_, q3, hs⟩
theorem RMv.mk3 (h : RMv w1 M Q l A a lag sh fi vL vA b0 b1 true false v0 v1 v2 W) (hQ : Q < w1.heap.size) : RMv w1 M Q l A a lag sh fi vL vA b0 b1 true true v0 v1 v2 (W.setCell ⟨Q, 2, none⟩ v2) := by
  have hr := h.row
  rw [if_pos rfl] at hr
  refine ⟨h.kp.set (Or.inl (Or.inl rfl)), h.i2, fun _ => rfl, h.m0, (blk_set h.blk).trans rfl, fun hb => ?_, ?_⟩
  · obtain ⟨g, e, g1, g2⟩ := h.n1 hb
    exact ⟨g, e, g1, blk_set_other g2 (by show g ≠ Q; omega)⟩
  · rw [if_pos rfl]
    exact ⟨ownsRow_setCell_other hr.1 hr.2.1 _, hr.2⟩
theorem RMv.fin {aL : Option Addr} {cL : Nat} (h : RMv w1 M Q l A a lag sh fi (.slice aL l.length cL) vA b0 b1 true true v0 v1 v2 W) (h0 : RpAt M Q l A lag sh fi aL cL vA w1) : RpAt M Q l (A ++ [a]) lag sh fi aL cL v2 W := by
  have hr := h.row
  rw [if_pos rfl] at hr
  refine ⟨h0.hQ, Nat.le_trans h0.hM h.kp.size, by have := h.blk; rw [if_pos rfl] at this; exact this, by rw [List.length_append]; exact hr.1, hr.2.1, fun hn => ?_⟩
  obtain ⟨b, e, h1, h2, h3, h4⟩ := h0.oL hn
  refine ⟨b, e, ?_, Nat.lt_of_lt_of_le h2 h.kp.size, Nat.lt_of_lt_of_le h3 h.kp.size, fun j u hj => h.kp.cell (h4 j u hj) h1⟩
  rintro (c | c)
  · exact h1 (Or.inl c)
  · rcases hr.2.2 with c2 | ⟨g, c2, c3⟩
    · exact h1 (Or.inr (c2.symm.trans c))
    · rw [c2] at c
      have := Option.some.inj c
      omega
end
theorem rp_at {lag i : Nat} {vL vA : Value} {sh : T3} {fi : Bool} (hi : i < 3) : (#[.int .i64 (lag : Int), vL, vA, .bool sh.1, .bool sh.2.1, .bool sh.2.2, .bool fi] : Array Value)[3 + i]? = some (.bool (at3 sh i)) := by
  have h1 : i = 0 ∨ i = 1 ∨ i = 2 := by omega
  rcases h1 with rfl | rfl | rfl <;> rfl
theorem old_act {A : List ActM} {a : ActM} {lag : Nat} (h : lag ≤ A.length) : ∃ x, (A ++ [a])[A.length - lag]? = some x ∧ x.1 = oldT (A.map (·.1)) a.1 lag := by
  have hl : A.length - lag < (A ++ [a]).length := by simp; omega
  refine ⟨(A ++ [a])[A.length - lag], List.getElem?_eq_getElem hl, ?_⟩
  unfold oldT
  rw [List.length_map, if_pos h, List.getD_eq_getElem?_getD]
  have e : A.map (·.1) ++ [a.1] = (A ++ [a]).map (·.1) := by simp
  rw [e, List.getElem?_map, List.getElem?_eq_getElem hl]
  rfl
theorem old_none {A : List ActM} {a : ActM} {lag : Nat} (h : ¬ lag ≤ A.length) : oldT (A.map (·.1)) a.1 lag = f3 := by
  unfold oldT
  rw [List.length_map, if_neg h]
theorem own_cells {W : World} {B E sz n c : Nat} {a : Option Addr} {xs : List Value} (h : W.ownsRow B E sz (.slice a n c) n xs) (hn : n * sz ≠ 0) : ∃ g, a = some ⟨g, 0, none⟩ ∧ g < W.heap.size ∧ ∀ (j : Nat) (u : Value), xs[j]? = some u → W.cell? ⟨g, j, none⟩ = some u := by
  obtain ⟨h1, h2⟩ := h
  rcases h2 with ⟨-, h3⟩ | ⟨g, cap, cur, q1, q2, q3, q4, q5, q6, q7⟩
  · exact absurd (by rw [h3, Nat.zero_mul]) hn
  · cases q1
    refine ⟨g, rfl, blk_lt q3, fun j u hj => ?_⟩
    have hjl := (List.getElem?_eq_some_iff.1 hj).1
    rw [← q7, List.getElem?_take_of_lt (by omega)] at hj
    exact blk_cell q3 (by simpa using hj)
set_option maxHeartbeats 4000000 in
set_option maxRecDepth 20000 in
theorem RMove_any {M Q : Nat} {l : List Brk} {A : List ActM} {lag : Nat} {sh : T3} {fi : Bool} {aL : Option Addr} {cL : Nat} {vA : Value} {w : World} (h : RpAt M Q l A lag sh fi aL cL vA w) (hl : lag ≤ 20) (hn : l.length ≤ 16) (hA : A.length ≤ 1000) (a : ActM) : Calls Try.prog 10 #[.pointer (some ⟨Q, 0, none⟩), actV a] w fun e w' => e = .returned (.int .i64 0) ∧ (∃ vA', RpAt M Q l (A ++ [a]) lag (moveT l (oldT (A.map (·.1)) a.1 lag) sh) (fi || a.2) aL cL vA' w' ∧ (vA'.ownBlock = vA.ownBlock ∨ ∃ g, vA'.ownBlock = some g ∧ w.heap.size ≤ g)) ∧ KeepX (fun k => k = Q ∨ vA.ownBlock = some k) w w' := by
  obtain ⟨w1, hw1⟩ : ∃ w1, w1 = w.alloc (.cells #[.bool a.1.1, .bool a.1.2.1, .bool a.1.2.2, .bool a.2] 41) := ⟨_, rfl⟩
  have HR0 : Hid (RpAt M Q l A lag sh fi aL cL vA w1) := by rw [hw1]; exact h.step bAl
  have HAC : Hid (w1.heap[w.heap.size]? = some (.cells #[.bool a.1.1, .bool a.1.2.1, .bool a.1.2.2, .bool a.2] 41 (0, 0))) := by rw [hw1]; exact blk_new w _
  have HKX : Hid (KeepX (fun k => k = Q ∨ vA.ownBlock = some k) w w1) := KeepX.of_below (by rw [hw1]; exact bAl)
  have HLT : Hid (∀ k, vA.ownBlock = some k → k < w.heap.size) := fun k e => (World.ownsRow.lt h.oA k e).2
  have HQ := Lib.hid h.lt
  have HSZ : Hid (w1.heap.size = w.heap.size + 1) := by rw [hw1]; simp [Hid]
  have HNB : Hid (¬ (w.heap.size = Q ∨ vA.ownBlock = some w.heap.size)) := by
    rintro (c | c)
    · have := HQ.out; omega
    · have := HLT.out _ c; omega
  obtain ⟨aA, cA, rfl⟩ := row_sl h.oA
  obtain ⟨j0, hj0, hy0, hy1, hy2⟩ := info_parts infoAct
  have HAL := Lib.hid hA
  have HNL := Lib.hid hn
  clear h hA hn
  unfold actV
  go_enter Try.func10, Try.ntmps10
  go_wp2_with fail
  rw [← hw1]
  clear hw1
  refine region_all 11 16 96 [(4, 16), (6, 18), (7, 19), (10, 99)] [(none, []), (none, []), (none, []), (none, []), (some 0, []), (none, []), (some 1, []), (some 2, [0, 1]), (none, []), (none, []), (some 3, [2])] [(12, (.pointer (some ⟨Q, 0, none⟩))), (13, (.pointer (some ⟨Q, 0, none⟩))), (14, (.pointer (some ⟨Q, 0, none⟩))), (15, (.pointer (some ⟨Q, 2, none⟩))), (17, (.agg #[.bool a.1.1, .bool a.1.2.1, .bool a.1.2.2, .bool a.2])), (20, (.pointer (some ⟨Q, 0, none⟩))), (21, (.pointer (some ⟨Q, 2, none⟩)))] (fun bsE vsE W => RMv w1 M Q l A a lag sh fi (.slice aL l.length cL) (.slice aA A.length cA) (bsE.getD 0 false) (bsE.getD 1 false) (bsE.getD 2 false) (bsE.getD 3 false) ((vsE.getD 0 undef)) ((vsE.getD 1 undef)) ((vsE.getD 2 undef)) W) (by kernel_rfl) (by kernel_rfl) rfl rfl (by kernel_rfl) (by rfl) ?h0 ?each ?done
  case h0 =>
    intro vsE hlv
    obtain ⟨v0, vsE0, rfl, hlv0⟩ := len_one hlv
    obtain ⟨v1, vsE1, rfl, hlv1⟩ := len_one hlv0
    obtain ⟨v2, vsE2, rfl, hlv2⟩ := len_one hlv1
    obtain ⟨v3, vsE3, rfl, hlv3⟩ := len_one hlv2
    obtain rfl := len_nil hlv3
    exact ⟨KeepX.of_below (Below.refl _ _).drew, (fun e => by cases e), (fun e => by cases e), (fun e => by cases e), HR0.out.blk, (fun e => by cases e), own_step HR0.out.oA (Below.refl _ _).drew⟩
  case each =>
    simp only [AllE]
    refine ⟨⟨12, (.pointer (some ⟨Q, 0, none⟩)), rfl, by kernel_rfl, ?_⟩, ⟨13, (.pointer (some ⟨Q, 0, none⟩)), rfl, by kernel_rfl, ?_⟩, ⟨14, (.pointer (some ⟨Q, 0, none⟩)), rfl, by kernel_rfl, ?_⟩, ⟨15, (.pointer (some ⟨Q, 2, none⟩)), rfl, by kernel_rfl, ?_⟩, Or.inl ⟨16, rfl, ?q1_4⟩, ⟨17, (.agg #[.bool a.1.1, .bool a.1.2.1, .bool a.1.2.2, .bool a.2]), rfl, by kernel_rfl, ?_⟩, Or.inl ⟨18, rfl, ?q1_6⟩, Or.inl ⟨19, rfl, ?q1_7⟩, ⟨20, (.pointer (some ⟨Q, 0, none⟩)), rfl, by kernel_rfl, ?_⟩, ⟨21, (.pointer (some ⟨Q, 2, none⟩)), rfl, by kernel_rfl, ?_⟩, Or.inr ⟨rfl, ?q1_10⟩, trivial⟩
    case q1_4 =>
      intro bsE vsE W hlb hlv hnd hbk h
      obtain ⟨b0, bsE0, rfl, hlb0⟩ := len_one hlb
      obtain ⟨v0, vsE0, rfl, hlv0⟩ := len_one hlv
      obtain ⟨b1, bsE1, rfl, hlb1⟩ := len_one hlb0
      obtain ⟨v1, vsE1, rfl, hlv1⟩ := len_one hlv0
      obtain ⟨b2, bsE2, rfl, hlb2⟩ := len_one hlb1
      obtain ⟨v2, vsE2, rfl, hlv2⟩ := len_one hlv1
      obtain ⟨b3, bsE3, rfl, hlb3⟩ := len_one hlb2
      obtain ⟨v3, vsE3, rfl, hlv3⟩ := len_one hlv2
      obtain rfl := len_nil hlb3
      obtain rfl := len_nil hlv3
      obtain rfl : b0 = false := hbk
      replace h : RMv w1 M Q l A a lag sh fi (.slice aL l.length cL) (.slice aA A.length cA) false b1 b2 b3 (v0) (v1) (v2) W := h
      clear hnd
      have HST := Lib.hid h
      obtain rfl := h.z2; obtain rfl := h.z3; have lQ := blk_lt h.blk; have x2 : W.cell? ⟨Q, 2, none⟩ = some (.slice aA A.length cA) := blk_cell h.blk rfl
      intro K Q hK
      simp only [putE, updAll, Act.put, List.setIfInBounds_toArray, List.set_cons_zero, List.set_cons_succ, List.set_nil] at hK ⊢
      go_wp2_with fail
      all_goals (first | exact hK _ _ h.mk0 | exact h.mk0)
    case q1_6 =>
      intro bsE vsE W hlb hlv hnd hbk h
      obtain ⟨b0, bsE0, rfl, hlb0⟩ := len_one hlb
      obtain ⟨v0, vsE0, rfl, hlv0⟩ := len_one hlv
      obtain ⟨b1, bsE1, rfl, hlb1⟩ := len_one hlb0
      obtain ⟨v1, vsE1, rfl, hlv1⟩ := len_one hlv0
      obtain ⟨b2, bsE2, rfl, hlb2⟩ := len_one hlb1
      obtain ⟨v2, vsE2, rfl, hlv2⟩ := len_one hlv1
      obtain ⟨b3, bsE3, rfl, hlb3⟩ := len_one hlb2
      obtain ⟨v3, vsE3, rfl, hlv3⟩ := len_one hlv2
      obtain rfl := len_nil hlb3
      obtain rfl := len_nil hlv3
      obtain rfl : b1 = false := hbk
      replace h : RMv w1 M Q l A a lag sh fi (.slice aL l.length cL) (.slice aA A.length cA) b0 false b2 b3 (v0) (v1) (v2) W := h
      clear hnd
      have HST := Lib.hid h
      obtain rfl := h.y2; obtain rfl := h.z3
      intro K Q hK
      simp only [putE, updAll, Act.put, List.setIfInBounds_toArray, List.set_cons_zero, List.set_cons_succ, List.set_nil] at hK ⊢
      go_wp2_with fail
      all_goals (first | exact hK _ _ h.mk1 | exact h.mk1)
    case q1_7 =>
      intro bsE vsE W hlb hlv hnd hbk h
      obtain ⟨b0, bsE0, rfl, hlb0⟩ := len_one hlb
      obtain ⟨v0, vsE0, rfl, hlv0⟩ := len_one hlv
      obtain ⟨b1, bsE1, rfl, hlb1⟩ := len_one hlb0
      obtain ⟨v1, vsE1, rfl, hlv1⟩ := len_one hlv0
      obtain ⟨b2, bsE2, rfl, hlb2⟩ := len_one hlb1
      obtain ⟨v2, vsE2, rfl, hlv2⟩ := len_one hlv1
      obtain ⟨b3, bsE3, rfl, hlb3⟩ := len_one hlb2
      obtain ⟨v3, vsE3, rfl, hlv3⟩ := len_one hlv2
      obtain rfl := len_nil hlb3
      obtain rfl := len_nil hlv3
      obtain rfl : b0 = true := hnd 0 (by simp)
      obtain rfl : b1 = true := hnd 1 (by simp)
      obtain rfl : b2 = false := hbk
      replace h : RMv w1 M Q l A a lag sh fi (.slice aL l.length cL) (.slice aA A.length cA) true true false b3 (v0) (v1) (v2) W := h
      clear hnd
      have HST := Lib.hid h
      obtain rfl := h.z3; obtain rfl := h.m0 rfl; obtain ⟨g, eg, hg1, hg2⟩ := h.n1 rfl; subst eg; have hrow : W.ownsRow M 41 4 (.slice aA A.length cA) A.length (flatA A) := h.row
      intro K Q hK
      simp only [putE, updAll, Act.put, List.setIfInBounds_toArray, List.set_cons_zero, List.set_cons_succ, List.set_nil] at hK ⊢
      refine wp_app (P := Try.prog) W (.tmp 16) (.tmp 18) 45 rfl M 41 j0 _ 4 4 Try.underlying45 hj0 hy0 hy1 hy2 rfl (by decide) (.slice aA A.length cA) A.length (flatA A) rfl hrow (some ⟨g, 0, none⟩) 1 1 (flatA [a]) rfl rfl (fun _ => ⟨g, 0, rfl, fun j u hu => blk_cell hg2 (by rw [Nat.zero_add]; simpa [flatA] using hu)⟩) (flatA_one _) (by have := HAL.out; unfold maxLen; omega) (by have := HAL.out; omega) (Nat.le_trans HR0.out.hM h.kp.size) fun v' W' q1 q2 q3 => ?_
      have hm := h.mk2 (fun k e => by have := HLT.out k e; have := HSZ.out; omega) (by have := HQ.out; have := HSZ.out; omega) HR0.out.nA q1 q2 q3
      first | exact hK _ _ hm | exact hm
    case q1_10 =>
      intro bsE vsE W hlb hlv hnd hbk h
      obtain ⟨b0, bsE0, rfl, hlb0⟩ := len_one hlb
      obtain ⟨v0, vsE0, rfl, hlv0⟩ := len_one hlv
      obtain ⟨b1, bsE1, rfl, hlb1⟩ := len_one hlb0
      obtain ⟨v1, vsE1, rfl, hlv1⟩ := len_one hlv0
      obtain ⟨b2, bsE2, rfl, hlb2⟩ := len_one hlb1
      obtain ⟨v2, vsE2, rfl, hlv2⟩ := len_one hlv1
      obtain ⟨b3, bsE3, rfl, hlb3⟩ := len_one hlb2
      obtain ⟨v3, vsE3, rfl, hlv3⟩ := len_one hlv2
      obtain rfl := len_nil hlb3
      obtain rfl := len_nil hlv3
      obtain rfl : b2 = true := hnd 2 (by simp)
      obtain rfl : b3 = false := hbk
      replace h : RMv w1 M Q l A a lag sh fi (.slice aL l.length cL) (.slice aA A.length cA) b0 b1 true false (v0) (v1) (v2) W := h
      clear hnd
      have HST := Lib.hid h
      have hr := h.row; rw [if_pos rfl] at hr; obtain ⟨a9, c9, e9⟩ := row_sl hr.1; subst e9; clear hr; have lQ := blk_lt h.blk; have x2 : W.cell? ⟨Q, 2, none⟩ = some (.slice aA A.length cA) := blk_cell h.blk rfl; have f2 : W.frozen? ⟨Q, 2, none⟩ = false := blk_free h.blk; have hm := h.mk3 (by have := HQ.out; have := HSZ.out; omega)
      intro K Q hK
      simp only [putE, updAll, Act.put, List.setIfInBounds_toArray, List.set_cons_zero, List.set_cons_succ, List.set_nil] at hK ⊢
      go_wp2_with fail
      all_goals (first | exact hK _ hm | exact hm)
    all_goals
      intro bsE vsE W hlb hlv hnd h
      obtain ⟨b0, bsE0, rfl, hlb0⟩ := len_one hlb
      obtain ⟨v0, vsE0, rfl, hlv0⟩ := len_one hlv
      obtain ⟨b1, bsE1, rfl, hlb1⟩ := len_one hlb0
      obtain ⟨v1, vsE1, rfl, hlv1⟩ := len_one hlv0
      obtain ⟨b2, bsE2, rfl, hlb2⟩ := len_one hlb1
      obtain ⟨v2, vsE2, rfl, hlv2⟩ := len_one hlv1
      obtain ⟨b3, bsE3, rfl, hlb3⟩ := len_one hlb2
      obtain ⟨v3, vsE3, rfl, hlv3⟩ := len_one hlv2
      obtain rfl := len_nil hlb3
      obtain rfl := len_nil hlv3
      replace h : RMv w1 M Q l A a lag sh fi (.slice aL l.length cL) (.slice aA A.length cA) b0 b1 b2 b3 (v0) (v1) (v2) W := h
      clear hnd
      have HST := Lib.hid h
      have lQ := blk_lt h.blk; have hac := h.kp.blk HAC.out HNB.out; have lB := blk_lt hac; have c0 := blk_cell (o := 0) hac rfl; have c1 := blk_cell (o := 1) hac rfl; have c2 := blk_cell (o := 2) hac rfl; have c3 := blk_cell (o := 3) hac rfl
      intro K Q hK
      simp only [putE, updAll, Act.put, List.setIfInBounds_toArray, List.set_cons_zero, List.set_cons_succ, List.set_nil] at hK ⊢
      go_wp2_with (fail)
      all_goals (first | exact hK _ h | exact h)
  case done =>
    intro vsE W hlv h
    obtain ⟨v0, vsE0, rfl, hlv0⟩ := len_one hlv
    obtain ⟨v1, vsE1, rfl, hlv1⟩ := len_one hlv0
    obtain ⟨v2, vsE2, rfl, hlv2⟩ := len_one hlv1
    obtain ⟨v3, vsE3, rfl, hlv3⟩ := len_one hlv2
    obtain rfl := len_nil hlv3
    replace h : RMv w1 M Q l A a lag sh fi (.slice aL l.length cL) (.slice aA A.length cA) true true true true (v0) (v1) (v2) W := h
    have HST := Lib.hid h
    have HS := Lib.hid h
    clear h HST
    simp only [putE, updAll, Act.put, List.setIfInBounds_toArray, List.set_cons_zero, List.set_cons_succ, List.set_nil]
    have HP := Lib.hid (HS.out.fin HR0.out)
    have HKW := Lib.hid HS.out.kp
    have HVB : Hid (v2.ownBlock = (Value.slice aA A.length cA).ownBlock ∨ ∃ g, v2.ownBlock = some g ∧ w1.heap.size ≤ g) := by have hr := HS.out.row; rw [if_pos rfl] at hr; exact hr.2.2
    obtain ⟨a2, c2, e2⟩ := row_sl HP.out.oA
    obtain ⟨n1, hn1⟩ : ∃ n1, (A ++ [a]).length = n1 := ⟨_, rfl⟩
    rw [hn1] at e2
    subst e2
    clear HS hlv hlv0 hlv1 hlv2 hlv3 HR0
    have q2 : W.drew.cell? ⟨Q, 2, none⟩ = some (.slice a2 n1 c2) := blk_cell HP.out.blk rfl
    have q0 : W.drew.cell? ⟨Q, 0, none⟩ = some (.int .i64 (lag : Int)) := blk_cell HP.out.blk rfl
    have lq : Q < W.drew.heap.size := HP.out.lt
    have hn2 : n1 = A.length + 1 := by rw [← hn1, List.length_append]; rfl
    have hAL := HAL.out
    have m1 : IntKind.i64.wrap ((n1 : Int) - 1) = (n1 : Int) - 1 := Go.IntWalk.i64_in _ ⟨by omega, by omega⟩
    obtain ⟨kk, hkk⟩ : ∃ kk : Int, (n1 : Int) - 1 - (lag : Int) = kk := ⟨_, rfl⟩
    have m2 : IntKind.i64.wrap ((n1 : Int) - 1 - (lag : Int)) = kk := (Go.IntWalk.i64_in _ ⟨by omega, by omega⟩).trans hkk
    have HKK := Lib.hid hkk
    have HN1 := Lib.hid hn1
    have HN2 := Lib.hid hn2
    clear hkk hn1 hn2 hAL
    go_wp2_with fail
    refine wp_tail_lock 11 (by kernel_rfl) (by kernel_rfl) ?_
    simp only [List.take_succ_cons, List.take_zero, List.drop_succ_cons, List.drop_zero]
    iterate 11 (first | ((first | (refine WT.skip rfl rfl rfl ?_) | (refine WT.skipU rfl rfl rfl ?_)); simp only [Act.put, List.setIfInBounds_toArray, List.set_cons_zero, List.set_cons_succ, List.set_nil]) | ((first | (apply WT.val; (exact rfl)) | (apply WT.valg; (exact rfl); (exact rfl); (exact rfl))); (simp [go_sem, q0, q2, lq, m1, m2]; first | done | exact rfl); simp only [Act.put, List.setIfInBounds_toArray, List.set_cons_zero, List.set_cons_succ, List.set_nil]))
    refine WT.fin ?_
    clear q0 q2 lq m1 m2
    go_wp2_with fail
    have HP2 := Lib.hid (HP.out.step (Below.refl _ _).drew)
    have HK2 := Lib.hid (HKW.out.step (Below.refl _ _).drew)
    clear HP HKW
    generalize W.drew = W2 at *
    obtain ⟨o, ho⟩ : ∃ o, oldT (A.map (·.1)) a.1 lag = o := ⟨_, rfl⟩
    have HO := Lib.hid ho
    clear ho
    go_loopw [6] (fun ix wr => ∃ i : Nat, i ≤ 3 ∧ ix = .int .i64 i ∧ Hid (RpAt M Q l (A ++ [a]) lag (mixT i (moveT l o sh) sh) fi aL cL (.slice a2 n1 c2) wr ∧ KeepX (fun k => k = Q ∨ (Value.slice aA A.length cA).ownBlock = some k) w1 wr)) (fun ix _ => 3 - (intOf ix).toNat)
    case atStart => exact ⟨0, by omega, rfl, HP2.out, HK2.out⟩
    case round =>
      obtain ⟨i, hi, rfl, HS⟩ := hrel
      clear HP2 HK2
      by_cases hc : i < 3
      · have c1 : (i : Int) < 3 := by omega
        have c0 : (0 : Int) ≤ i := by omega
        have CW := Lib.hid (fun W9 (hb : Below wr.heap.size wr W9) => Rhas_any (HS.out.1.step hb) HNL.out 3 (i : Int))
        have CS := Lib.hid (fun W9 (hb : Below wr.heap.size wr W9) => Rhas_any (HS.out.1.step hb) HNL.out 4 (i : Int))
        go_upto_region 8 with (first | (go_at_call 25; with_reducible refine (CW.out _ (Below.refl _ _)).mono ?_; rintro e w6 ⟨rfl, hb6⟩; have HB6 := Lib.hid hb6; clear hb6) | (go_at_call 25; with_reducible refine (CS.out _ HB6.out).mono ?_; rintro e w7 ⟨rfl, hb7⟩; have HB7 := Lib.hid (bStep HB6.out hb7); clear hb7))
        have HP7 := Lib.hid (HS.out.1.step HB7.out)
        have HK7 := Lib.hid (HS.out.2.step HB7.out)
        clear CW CS HS HB6 HB7
        by_cases ck : lag ≤ A.length
        · obtain ⟨x, hx, hxo⟩ := old_act (a := a) ck
          rw [HO.out] at hxo
          obtain ⟨g2, eg, lg, hg⟩ := own_cells (c := c2) (a := a2) (n := n1) (by have h9 := HP7.out.oA; rw [HN1.out] at h9; exact h9) (by rw [HN2.out]; omega)
          subst eg
          obtain ⟨j, hj⟩ : ∃ j : Nat, j = A.length - lag := ⟨_, rfl⟩
          obtain rfl : kk = (j : Int) := by have := HKK.out; have := HN2.out; omega
          have d1 : ¬ (j : Int) < 0 := by omega
          have d0 : (0 : Int) ≤ (j : Int) := by omega
          have d2 : (j : Int) < n1 := by have := HN2.out; omega
          have d3 : max (j : Int) 0 = (j : Int) := by omega
          have x2 : w7.cell? ⟨Q, 2, none⟩ = some (.slice (some ⟨g2, 0, none⟩) n1 c2) := blk_cell HP7.out.blk rfl
          have xa : w7.cell? ⟨g2, j * 4 + i, none⟩ = some (.bool (at3 o i)) := by rw [hj, ← hxo]; exact hg _ _ (flatA_at hx hc)
          have lQ := HP7.out.lt
          clear hx hxo hg hj ck
          go_upto_region 9 with fail
          clear d1 d0 d2 d3 x2 xa lQ lg
          have q3 : w7.drew.cell? ⟨Q, 3 + i, none⟩ = some (.bool (at3 sh i)) := (blk_cell HP7.out.blk (rp_at hc)).trans (by rw [mixT_at hc])
          have f3 : w7.drew.frozen? ⟨Q, 3 + i, none⟩ = false := blk_free HP7.out.blk
          have lq : Q < w7.drew.heap.size := HP7.out.lt
          have HV := Lib.hid (moveT_at (l := l) (o := o) (sh := sh) hc)
          generalize at3 o i = dr at *
          generalize (hasB 4 (i : Int) l).1 = sk at *
          generalize (hasB 3 (i : Int) l).1 = wl at *
          generalize at3 sh i = ws at *
          cases sk with
          | true =>
            have HVV : Hid (at3 (moveT l o sh) i = false) := HV.out.trans (by first | rfl | (cases ws <;> rfl))
            clear HV
            refine wp_tail_lock 21 (by kernel_rfl) (by kernel_rfl) ?_
            simp only [List.take_succ_cons, List.take_zero, List.drop_succ_cons, List.drop_zero]
            iterate 21 (first | ((first | (refine WT.skip rfl rfl rfl ?_) | (refine WT.skipU rfl rfl rfl ?_)); simp only [Act.put, List.setIfInBounds_toArray, List.set_cons_zero, List.set_cons_succ, List.set_nil]) | ((first | (apply WT.val; (exact rfl)) | (apply WT.valg; (exact rfl); (exact rfl); (exact rfl))); (simp [go_sem, q3, lq, c0, c1]; first | done | exact rfl); simp only [Act.put, List.setIfInBounds_toArray, List.set_cons_zero, List.set_cons_succ, List.set_nil]))
            refine WT.fin ?_
            go_wp2_with fail
            refine ⟨⟨i + 1, by omega, by push_cast; rfl, ?_, ?_⟩, by simp [intOf]; omega⟩
            · have h9 := (HP7.out.setSh (b := false) hc).step (Below.refl _ _).drew
              rw [← HVV.out, mixT_next hc] at h9
              rw [← HVV.out]
              exact h9
            · exact (HK7.out.set (Or.inl (Or.inl rfl))).step (Below.refl _ _).drew
          | false =>
            cases dr with
            | true =>
              have HVV : Hid (at3 (moveT l o sh) i = true) := HV.out.trans (by first | rfl | (cases ws <;> rfl))
              clear HV
              refine wp_tail_lock 21 (by kernel_rfl) (by kernel_rfl) ?_
              simp only [List.take_succ_cons, List.take_zero, List.drop_succ_cons, List.drop_zero]
              iterate 21 (first | ((first | (refine WT.skip rfl rfl rfl ?_) | (refine WT.skipU rfl rfl rfl ?_)); simp only [Act.put, List.setIfInBounds_toArray, List.set_cons_zero, List.set_cons_succ, List.set_nil]) | ((first | (apply WT.val; (exact rfl)) | (apply WT.valg; (exact rfl); (exact rfl); (exact rfl))); (simp [go_sem, q3, lq, c0, c1]; first | done | exact rfl); simp only [Act.put, List.setIfInBounds_toArray, List.set_cons_zero, List.set_cons_succ, List.set_nil]))
              refine WT.fin ?_
              go_wp2_with fail
              refine ⟨⟨i + 1, by omega, by push_cast; rfl, ?_, ?_⟩, by simp [intOf]; omega⟩
              · have h9 := (HP7.out.setSh (b := true) hc).step (Below.refl _ _).drew
                rw [← HVV.out, mixT_next hc] at h9
                rw [← HVV.out]
                exact h9
              · exact (HK7.out.set (Or.inl (Or.inl rfl))).step (Below.refl _ _).drew
            | false =>
              cases wl with
              | false =>
                have HVV : Hid (at3 (moveT l o sh) i = false) := HV.out.trans (by first | rfl | (cases ws <;> rfl))
                clear HV
                refine wp_tail_lock 21 (by kernel_rfl) (by kernel_rfl) ?_
                simp only [List.take_succ_cons, List.take_zero, List.drop_succ_cons, List.drop_zero]
                iterate 21 (first | ((first | (refine WT.skip rfl rfl rfl ?_) | (refine WT.skipU rfl rfl rfl ?_)); simp only [Act.put, List.setIfInBounds_toArray, List.set_cons_zero, List.set_cons_succ, List.set_nil]) | ((first | (apply WT.val; (exact rfl)) | (apply WT.valg; (exact rfl); (exact rfl); (exact rfl))); (simp [go_sem, q3, lq, c0, c1]; first | done | exact rfl); simp only [Act.put, List.setIfInBounds_toArray, List.set_cons_zero, List.set_cons_succ, List.set_nil]))
                refine WT.fin ?_
                go_wp2_with fail
                refine ⟨⟨i + 1, by omega, by push_cast; rfl, ?_, ?_⟩, by simp [intOf]; omega⟩
                · have h9 := (HP7.out.setSh (b := false) hc).step (Below.refl _ _).drew
                  rw [← HVV.out, mixT_next hc] at h9
                  rw [← HVV.out]
                  exact h9
                · exact (HK7.out.set (Or.inl (Or.inl rfl))).step (Below.refl _ _).drew
              | true =>
                have HVV : Hid (at3 (moveT l o sh) i = ws) := HV.out.trans (by first | rfl | (cases ws <;> rfl))
                clear HV
                refine wp_tail_lock 21 (by kernel_rfl) (by kernel_rfl) ?_
                simp only [List.take_succ_cons, List.take_zero, List.drop_succ_cons, List.drop_zero]
                iterate 21 (first | ((first | (refine WT.skip rfl rfl rfl ?_) | (refine WT.skipU rfl rfl rfl ?_)); simp only [Act.put, List.setIfInBounds_toArray, List.set_cons_zero, List.set_cons_succ, List.set_nil]) | ((first | (apply WT.val; (exact rfl)) | (apply WT.valg; (exact rfl); (exact rfl); (exact rfl))); (simp [go_sem, q3, lq, c0, c1]; first | done | exact rfl); simp only [Act.put, List.setIfInBounds_toArray, List.set_cons_zero, List.set_cons_succ, List.set_nil]))
                refine WT.fin ?_
                go_wp2_with fail
                refine ⟨⟨i + 1, by omega, by push_cast; rfl, ?_, ?_⟩, by simp [intOf]; omega⟩
                · have h9 := (HP7.out.setSh (b := ws) hc).step (Below.refl _ _).drew
                  rw [← HVV.out, mixT_next hc] at h9
                  rw [← HVV.out]
                  exact h9
                · exact (HK7.out.set (Or.inl (Or.inl rfl))).step (Below.refl _ _).drew
        · have hk0 : ¬ kk ≥ 0 := by have := HKK.out; have := HN2.out; omega
          have hk1 : decide (kk ≥ 0) = false := decide_eq_false hk0
          have hof : at3 o i = false := by rw [← HO.out, old_none ck]; have h3 : i = 0 ∨ i = 1 ∨ i = 2 := (by omega); rcases h3 with rfl | rfl | rfl <;> rfl
          clear ck
          go_upto_region 9 with fail
          have q3 : w7.drew.cell? ⟨Q, 3 + i, none⟩ = some (.bool (at3 sh i)) := (blk_cell HP7.out.blk (rp_at hc)).trans (by rw [mixT_at hc])
          have f3 : w7.drew.frozen? ⟨Q, 3 + i, none⟩ = false := blk_free HP7.out.blk
          have lq : Q < w7.drew.heap.size := HP7.out.lt
          have HV := Lib.hid (moveT_at (l := l) (o := o) (sh := sh) hc)
          rw [hof] at HV
          clear hk0 hk1 hof
          generalize (hasB 4 (i : Int) l).1 = sk at *
          generalize (hasB 3 (i : Int) l).1 = wl at *
          generalize at3 sh i = ws at *
          cases sk with
          | true =>
            have HVV : Hid (at3 (moveT l o sh) i = false) := HV.out.trans (by first | rfl | (cases ws <;> rfl))
            clear HV
            refine wp_tail_lock 21 (by kernel_rfl) (by kernel_rfl) ?_
            simp only [List.take_succ_cons, List.take_zero, List.drop_succ_cons, List.drop_zero]
            iterate 21 (first | ((first | (refine WT.skip rfl rfl rfl ?_) | (refine WT.skipU rfl rfl rfl ?_)); simp only [Act.put, List.setIfInBounds_toArray, List.set_cons_zero, List.set_cons_succ, List.set_nil]) | ((first | (apply WT.val; (exact rfl)) | (apply WT.valg; (exact rfl); (exact rfl); (exact rfl))); (simp [go_sem, q3, lq, c0, c1]; first | done | exact rfl); simp only [Act.put, List.setIfInBounds_toArray, List.set_cons_zero, List.set_cons_succ, List.set_nil]))
            refine WT.fin ?_
            go_wp2_with fail
            refine ⟨⟨i + 1, by omega, by push_cast; rfl, ?_, ?_⟩, by simp [intOf]; omega⟩
            · have h9 := (HP7.out.setSh (b := false) hc).step (Below.refl _ _).drew
              rw [← HVV.out, mixT_next hc] at h9
              rw [← HVV.out]
              exact h9
            · exact (HK7.out.set (Or.inl (Or.inl rfl))).step (Below.refl _ _).drew
          | false =>
            cases wl with
            | false =>
              have HVV : Hid (at3 (moveT l o sh) i = false) := HV.out.trans (by first | rfl | (cases ws <;> rfl))
              clear HV
              refine wp_tail_lock 21 (by kernel_rfl) (by kernel_rfl) ?_
              simp only [List.take_succ_cons, List.take_zero, List.drop_succ_cons, List.drop_zero]
              iterate 21 (first | ((first | (refine WT.skip rfl rfl rfl ?_) | (refine WT.skipU rfl rfl rfl ?_)); simp only [Act.put, List.setIfInBounds_toArray, List.set_cons_zero, List.set_cons_succ, List.set_nil]) | ((first | (apply WT.val; (exact rfl)) | (apply WT.valg; (exact rfl); (exact rfl); (exact rfl))); (simp [go_sem, q3, lq, c0, c1]; first | done | exact rfl); simp only [Act.put, List.setIfInBounds_toArray, List.set_cons_zero, List.set_cons_succ, List.set_nil]))
              refine WT.fin ?_
              go_wp2_with fail
              refine ⟨⟨i + 1, by omega, by push_cast; rfl, ?_, ?_⟩, by simp [intOf]; omega⟩
              · have h9 := (HP7.out.setSh (b := false) hc).step (Below.refl _ _).drew
                rw [← HVV.out, mixT_next hc] at h9
                rw [← HVV.out]
                exact h9
              · exact (HK7.out.set (Or.inl (Or.inl rfl))).step (Below.refl _ _).drew
            | true =>
              have HVV : Hid (at3 (moveT l o sh) i = ws) := HV.out.trans (by first | rfl | (cases ws <;> rfl))
              clear HV
              refine wp_tail_lock 21 (by kernel_rfl) (by kernel_rfl) ?_
              simp only [List.take_succ_cons, List.take_zero, List.drop_succ_cons, List.drop_zero]
              iterate 21 (first | ((first | (refine WT.skip rfl rfl rfl ?_) | (refine WT.skipU rfl rfl rfl ?_)); simp only [Act.put, List.setIfInBounds_toArray, List.set_cons_zero, List.set_cons_succ, List.set_nil]) | ((first | (apply WT.val; (exact rfl)) | (apply WT.valg; (exact rfl); (exact rfl); (exact rfl))); (simp [go_sem, q3, lq, c0, c1]; first | done | exact rfl); simp only [Act.put, List.setIfInBounds_toArray, List.set_cons_zero, List.set_cons_succ, List.set_nil]))
              refine WT.fin ?_
              go_wp2_with fail
              refine ⟨⟨i + 1, by omega, by push_cast; rfl, ?_, ?_⟩, by simp [intOf]; omega⟩
              · have h9 := (HP7.out.setSh (b := ws) hc).step (Below.refl _ _).drew
                rw [← HVV.out, mixT_next hc] at h9
                rw [← HVV.out]
                exact h9
              · exact (HK7.out.set (Or.inl (Or.inl rfl))).step (Below.refl _ _).drew
      · obtain rfl : i = 3 := by omega
        clear hc
        have x6 : wr.cell? ⟨Q, 6, none⟩ = some (.bool fi) := blk_cell HS.out.1.blk rfl
        have f6 : wr.frozen? ⟨Q, 6, none⟩ = false := blk_free HS.out.1.blk
        have lQ := HS.out.1.lt
        have HA9 := Lib.hid (HS.out.2.blk HAC.out HNB.out)
        have xb := blk_cell (o := 3) HA9.out rfl
        have lB := blk_lt HA9.out
        have HZ : Hid (∀ b W9, RpAt M Q l (A ++ [a]) lag (mixT 3 (moveT l o sh) sh) b aL cL (.slice a2 n1 c2) W9 → KeepX (fun k => k = Q ∨ (Value.slice aA A.length cA).ownBlock = some k) w1 W9 → (∃ vA', RpAt M Q l (A ++ [a]) lag (moveT l (oldT (A.map (·.1)) a.1 lag) sh) b aL cL vA' W9 ∧ (vA'.ownBlock = (Value.slice aA A.length cA).ownBlock ∨ ∃ g, vA'.ownBlock = some g ∧ w.heap.size ≤ g)) ∧ KeepX (fun k => k = Q ∨ (Value.slice aA A.length cA).ownBlock = some k) w W9) := fun b W9 h1 h2 => by
          rw [HO.out]
          refine ⟨⟨_, h1, ?_⟩, HKX.out.trans h2 fun _ _ c => c⟩
          rcases HVB.out with c | ⟨g, c, c9⟩
          · exact Or.inl c
          · exact Or.inr ⟨g, c, by have := HSZ.out; omega⟩
        cases fi with
        | true =>
          go_wp2_with fail
          exact bodyPost_ret (v := .int .i64 0) (by simp only [results, Try.results10]; go_simp) rfl ⟨rfl, HZ.out true _ (HS.out.1.setFi) (HS.out.2.set (Or.inl (Or.inl rfl)))⟩
        | false =>
          go_wp2_with fail
          exact bodyPost_ret (v := .int .i64 0) (by simp only [results, Try.results10]; go_simp) rfl ⟨rfl, HZ.out (false || a.2) _ (HS.out.1.setFi) (HS.out.2.set (Or.inl (Or.inl rfl)))⟩
end Go.Proofs.Ytladkknbkgomfaa
