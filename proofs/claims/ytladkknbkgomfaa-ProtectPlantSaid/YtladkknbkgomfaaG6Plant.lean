/-
  Plants: the reference's plant in memory; has, Path.
-/
import Derived.Test.YtladkknbkgomfaaG5Plant
set_option linter.unusedSimpArgs false
set_option linter.unusedVariables false
namespace Go.Proofs.Ytladkknbkgomfaa
open Go.RowKit Mr
/-- The faults' cells. -/
def flatB : List Brk → List Value
  | [] => []
  | b :: l => .int .i64 b.1 :: .int .i64 b.2.1 :: .bool b.2.2 :: flatB l
theorem flatB_len (l : List Brk) : (flatB l).length = l.length * 3 := by
  induction l with
  | nil => rfl
  | cons b l ih => simp only [flatB, List.length_cons, ih]; omega
theorem flatB_at : ∀ {l : List Brk} {k : Nat} {b : Brk}, l[k]? = some b → (flatB l)[k * 3]? = some (.int .i64 b.1) ∧ (flatB l)[k * 3 + 1]? = some (.int .i64 b.2.1) ∧ (flatB l)[k * 3 + 2]? = some (.bool b.2.2)
  | [], k, b, h => by cases h
  | x :: l, 0, b, h => by obtain rfl := Option.some.inj h; exact ⟨rfl, rfl, rfl⟩
  | x :: l, k + 1, b, h => by
    have := flatB_at (l := l) (k := k) (b := b) h
    have e : ∀ j, (flatB (x :: l))[(k + 1) * 3 + j]? = (flatB l)[k * 3 + j]? := fun j => by
      show (.int .i64 x.1 :: .int .i64 x.2.1 :: .bool x.2.2 :: flatB l : List Value)[(k + 1) * 3 + j]? = _
      rw [show (k + 1) * 3 + j = k * 3 + j + 1 + 1 + 1 by omega, List.getElem?_cons_succ, List.getElem?_cons_succ, List.getElem?_cons_succ]
    exact ⟨(e 0).trans this.1, (e 1).trans this.2.1, (e 2).trans this.2.2⟩
abbrev ActM := T3 × Bool
def flatA : List ActM → List Value
  | [] => []
  | a :: l => .bool a.1.1 :: .bool a.1.2.1 :: .bool a.1.2.2 :: .bool a.2 :: flatA l
theorem flatA_len (l : List ActM) : (flatA l).length = l.length * 4 := by
  induction l with
  | nil => rfl
  | cons b l ih => simp only [flatA, List.length_cons, ih]; omega
theorem flatA_app (l m : List ActM) : flatA (l ++ m) = flatA l ++ flatA m := by
  induction l with
  | nil => rfl
  | cons b l ih => simp only [List.cons_append, flatA, ih]
theorem flatA_at : ∀ {l : List ActM} {k q : Nat} {a : ActM}, l[k]? = some a → q < 3 → (flatA l)[k * 4 + q]? = some (.bool (at3 a.1 q))
  | [], k, q, b, h, _ => by cases h
  | x :: l, 0, q, b, h, hq => by
    obtain rfl := Option.some.inj h
    have h1 : q = 0 ∨ q = 1 ∨ q = 2 := by omega
    rcases h1 with rfl | rfl | rfl <;> rfl
  | x :: l, k + 1, q, b, h, hq => by
    have := flatA_at (l := l) (k := k) (a := b) h hq
    show (.bool x.1.1 :: .bool x.1.2.1 :: .bool x.1.2.2 :: .bool x.2 :: flatA l : List Value)[(k + 1) * 4 + q]? = _
    rw [show (k + 1) * 4 + q = k * 4 + q + 1 + 1 + 1 + 1 by omega, List.getElem?_cons_succ, List.getElem?_cons_succ, List.getElem?_cons_succ, List.getElem?_cons_succ]
    exact this
/-- A slice of faults that lies in none of the blocks of Z. -/
def BkX (Z : Nat → Prop) (M : Nat) (a : Option Addr) (l : List Brk) (W : World) : Prop := l ≠ [] → ∃ b, a = some ⟨b, 0, none⟩ ∧ ¬ Z b ∧ b < M ∧ b < W.heap.size ∧ ∀ (j : Nat) (u : Value), (flatB l)[j]? = some u → W.cell? ⟨b, j, none⟩ = some u
theorem BkX.at_ {Z : Nat → Prop} {M : Nat} {a : Option Addr} {l : List Brk} {W : World} (h : BkX Z M a l W) : BkAt a l W := fun hn => by
  obtain ⟨b, e, -, -, h1, h2⟩ := h hn
  refine ⟨b, 0, e, h1, fun k x hk => ?_⟩
  obtain ⟨g1, g2, g3⟩ := flatB_at hk
  exact ⟨by rw [Nat.zero_add]; exact h2 _ _ g1, by rw [Nat.zero_add]; exact h2 _ _ g2, by rw [Nat.zero_add]; exact h2 _ _ g3⟩
theorem BkX.keep {Z S : Nat → Prop} {M : Nat} {a : Option Addr} {l : List Brk} {w W : World} (h : BkX Z M a l w) (hk : KeepX S w W) (hS : ∀ b, b < M → ¬ Z b → ¬ S b) : BkX Z M a l W := fun hn => by
  obtain ⟨b, e, h1, h2, h3, h4⟩ := h hn
  exact ⟨b, e, h1, h2, Nat.lt_of_lt_of_le h3 hk.size, fun j u hj => hk.cell (h4 j u hj) (hS b h2 h1)⟩
/-- The cells of the reference's plant. -/
def rpC (lag : Nat) (vL vA : Value) (sh : T3) (fi : Bool) : List Value := [.int .i64 (lag : Int), vL, vA, .bool sh.1, .bool sh.2.1, .bool sh.2.2, .bool fi]
def rpO (lag : Nat) (vL vA : Value) (sh : T3) (fi : Bool) : Obj := .cells #[.int .i64 (lag : Int), vL, vA, .bool sh.1, .bool sh.2.1, .bool sh.2.2, .bool fi] 47 (0, 0)
/-- The reference's plant in memory: its block, the acts' row lie in blocks from M on; the faults' row may be another plant's. -/
structure RpAt (M Q : Nat) (l : List Brk) (A : List ActM) (lag : Nat) (sh : T3) (fi : Bool) (aL : Option Addr) (cL : Nat) (vA : Value) (W : World) : Prop where
  hQ : M ≤ Q
  hM : M ≤ W.heap.size
  blk : W.heap[Q]? = some (rpO lag (.slice aL l.length cL) vA sh fi)
  oA : W.ownsRow M 41 4 vA A.length (flatA A)
  nA : vA.ownBlock ≠ some Q
  oL : BkX (fun b => b = Q ∨ vA.ownBlock = some b) W.heap.size aL l W
section
variable {M Q : Nat} {l : List Brk} {A : List ActM} {lag : Nat} {sh : T3} {fi : Bool} {aL : Option Addr} {cL : Nat} {vA : Value} {w W : World} {S : Nat → Prop}
theorem RpAt.keep (h : RpAt M Q l A lag sh fi aL cL vA w) (hk : KeepX S w W) (hQ : ¬ S Q) (hA : ∀ b, vA.ownBlock = some b → ¬ S b) (hL : ∀ b, aL = some ⟨b, 0, none⟩ → ¬ S b) : RpAt M Q l A lag sh fi aL cL vA W := by
  refine ⟨h.hQ, Nat.le_trans h.hM hk.size, hk.blk h.blk hQ, ?_, h.nA, fun hn => ?_⟩
  · obtain ⟨h1, h2⟩ := h.oA
    refine ⟨h1, ?_⟩
    rcases h2 with h2 | ⟨g, cap, cur, q1, q2, q3, q4⟩
    · exact Or.inl h2
    · exact Or.inr ⟨g, cap, cur, q1, q2, hk.blk q3 (hA g (by rw [q1]; rfl)), q4⟩
  · obtain ⟨b, e, h1, h2, h3, h4⟩ := h.oL hn
    exact ⟨b, e, h1, Nat.lt_of_lt_of_le h2 hk.size, Nat.lt_of_lt_of_le h3 hk.size, fun j u hj => hk.cell (h4 j u hj) (hL b e)⟩
theorem RpAt.step (h : RpAt M Q l A lag sh fi aL cL vA w) (hb : Below w.heap.size w W) : RpAt M Q l A lag sh fi aL cL vA W := h.keep (S := fun _ => False) (KeepX.of_below hb) (fun c => c) (fun _ _ c => c) (fun _ _ c => c)
theorem RpAt.lt (h : RpAt M Q l A lag sh fi aL cL vA W) : Q < W.heap.size := blk_lt h.blk
end
set_option maxHeartbeats 4000000 in
set_option maxRecDepth 20000 in
theorem Rhas_any {M Q : Nat} {l : List Brk} {A : List ActM} {lag : Nat} {sh : T3} {fi : Bool} {aL : Option Addr} {cL : Nat} {vA : Value} {w : World} (h : RpAt M Q l A lag sh fi aL cL vA w) (hn : l.length ≤ 16) (kd : Int) (at_ : Int) : Calls Try.prog 25 #[.pointer (some ⟨Q, 0, none⟩), .int .i64 kd, .int .i64 at_] w fun e w' => e = .returned (.tuple #[.bool (hasB kd at_ l).1, .bool (hasB kd at_ l).2]) ∧ Below w.heap.size w w' := by
  have x1 : w.cell? ⟨Q, 1, none⟩ = some (.slice aL l.length cL) := blk_cell h.blk rfl
  have lQ := h.lt
  have HA := Lib.hid h.oL.at_
  have HN := Lib.hid hn
  clear h hn
  go_enter Try.func25, Try.ntmps25
  go_wp2_with fail
  go_loopw [10, 8, 9] (fun ix fx bx wr => ∃ i : Nat, i ≤ l.length ∧ ix = .int .i64 i ∧ wr = w ∧ fx = .bool (hasB kd at_ (l.take i)).1 ∧ bx = .bool (hasB kd at_ (l.take i)).2) (fun ix _ _ _ => l.length - (intOf ix).toNat)
  case atStart => exact ⟨0, Nat.zero_le _, rfl, rfl, rfl, rfl⟩
  case round =>
    obtain ⟨i, hi, rfl, hw, rfl, rfl⟩ := hrel
    have hw2 := hw.symm
    subst hw2
    by_cases hc : i < l.length
    · have c1 : (i : Int) < l.length := by omega
      have c0 : (0 : Int) ≤ i := by omega
      obtain ⟨⟨q, a, B⟩, hk⟩ : ∃ x, l[i]? = some x := ⟨l[i], List.getElem?_eq_getElem hc⟩
      have HTK := Lib.hid (hasB_take (k := kd) (a := at_) hk)
      obtain ⟨b, off, rfl, hbl, hbc⟩ := HA.out (by rintro rfl; simp at hk)
      obtain ⟨y0, y1, y2⟩ := hbc i _ hk
      have ly := cell_lt y0
      have hml : l.length ≤ 16 := HN.out
      clear hk hbc hc
      generalize hT : hasB kd at_ (l.take i) = t at *
      by_cases k1 : q = kd
      · by_cases k2 : a = at_
        · subst k1
          subst k2
          have HF : Hid (hasB q a (l.take (i + 1)) = (true, B)) := by unfold Hid; rw [HTK.out]; unfold hasS; rw [if_pos ⟨rfl, rfl⟩]
          clear HTK
          go_wp2_with fail
          exact ⟨⟨i + 1, by omega, by push_cast; rfl, by first | rfl | trivial, by rw [HF.out], by rw [HF.out]⟩, by simp [intOf]; omega⟩
        · have HF : Hid (hasB kd at_ (l.take (i + 1)) = t) := by unfold Hid; rw [HTK.out]; unfold hasS; rw [if_neg (fun c => k2 c.2)]
          clear HTK
          subst k1
          go_wp2_with fail
          exact ⟨⟨i + 1, by omega, by push_cast; rfl, by first | rfl | trivial, by rw [HF.out], by rw [HF.out]⟩, by simp [intOf]; omega⟩
      · have HF : Hid (hasB kd at_ (l.take (i + 1)) = t) := by unfold Hid; rw [HTK.out]; unfold hasS; rw [if_neg (fun c => k1 c.1)]
        clear HTK
        go_wp2_with fail
        exact ⟨⟨i + 1, by omega, by push_cast; rfl, by first | rfl | trivial, by rw [HF.out], by rw [HF.out]⟩, by simp [intOf]; omega⟩
    · obtain rfl : i = l.length := by omega
      have c1 : ¬ (l.length : Int) < l.length := by omega
      rw [List.take_length]
      clear hc
      go_wp2_with fail
      exact bodyPost_ret (v := .tuple #[.bool (hasB kd at_ l).1, .bool (hasB kd at_ l).2]) (by simp only [results, Try.results25]; go_simp) rfl ⟨rfl, (by repeat' (first | exact Below.refl _ _ | assumption | apply bDrewN | apply bDrew | apply bAlloc | (refine bSet ?_ ?_ _) | (refine bStep ?_ (by assumption)) | omega | (simp <;> omega)))⟩
set_option maxHeartbeats 4000000 in
set_option maxRecDepth 20000 in
theorem RPath_any {M Q : Nat} {l : List Brk} {A : List ActM} {lag : Nat} {sh : T3} {fi : Bool} {aL : Option Addr} {cL : Nat} {vA : Value} {w : World} (h : RpAt M Q l A lag sh fi aL cL vA w) : Calls Try.prog 15 #[.pointer (some ⟨Q, 0, none⟩)] w fun e w' => e = .returned (.bool (pathB sh fi)) ∧ Below w.heap.size w w' := by
  have x3 : w.cell? ⟨Q, 3, none⟩ = some (.bool sh.1) := blk_cell h.blk rfl
  have x4 : w.cell? ⟨Q, 4, none⟩ = some (.bool sh.2.1) := blk_cell h.blk rfl
  have x5 : w.cell? ⟨Q, 5, none⟩ = some (.bool sh.2.2) := blk_cell h.blk rfl
  have x6 : w.cell? ⟨Q, 6, none⟩ = some (.bool fi) := blk_cell h.blk rfl
  have lQ := h.lt
  clear h
  obtain ⟨a, b, c⟩ := sh
  unfold pathB
  dsimp only at *
  cases fi <;> cases a <;> cases b <;> cases c
  all_goals
    go_enter Try.func15, Try.ntmps15
    go_wp2_with fail
    first
    | exact bodyPost_ret (v := .bool false) (by simp only [results, Try.results15]; go_simp) rfl ⟨rfl, (by repeat' (first | exact Below.refl _ _ | assumption | apply bDrewN | apply bDrew | apply bAlloc | (refine bSet ?_ ?_ _) | (refine bStep ?_ (by assumption)) | omega | (simp <;> omega)))⟩
    | exact bodyPost_ret (v := .bool true) (by simp only [results, Try.results15]; go_simp) rfl ⟨rfl, (by repeat' (first | exact Below.refl _ _ | assumption | apply bDrewN | apply bDrew | apply bAlloc | (refine bSet ?_ ?_ _) | (refine bStep ?_ (by assumption)) | omega | (simp <;> omega)))⟩
end Go.Proofs.Ytladkknbkgomfaa
