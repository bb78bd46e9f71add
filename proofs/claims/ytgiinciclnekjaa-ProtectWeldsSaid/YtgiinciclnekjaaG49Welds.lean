/-
  The rule of Play.
-/
import Derived.Test.YtgiinciclnekjaaG42Welds
import Derived.Test.YtgiinciclnekjaaG43Welds
import Derived.Test.YtgiinciclnekjaaG44Welds
import Derived.Test.YtgiinciclnekjaaG45Welds
import Derived.Test.YtgiinciclnekjaaG46Welds
import Derived.Test.YtgiinciclnekjaaG47Welds
import Derived.Test.YtgiinciclnekjaaG48Welds
import Derived.Test.YtgiinciclnekjaaG5Welds
import Derived.Test.YtgiinciclnekjaaG41Welds
set_option linter.unusedSimpArgs false
set_option linter.unusedVariables false
namespace Go.Proofs.Ytgiinciclnekjaa
open Sx Go.RowKit
/-- Which cases there are. -/
def okK (K A : Nat) : Bool := Nat.ble A 2 && (Nat.ble K 6 && (!Nat.beq K 0 || Nat.beq A 0)) || Nat.beq K 7 && Nat.beq A 0
theorem py_all {K A : Nat} (h : okK K A = true) (B : Bool) (n : Nat → Int) (lag : Int) (len : Nat) (cap : Nat × Nat) (f : Nat → Value) (v : FVal) : pyL K A B n lag len cap f v = pyLX K A B n lag len f v := by
  match K, A, h with
  | 0, 0, _ => exact py_0_0 B n lag len cap f v
  | 1, 0, _ => exact py_1_0 B n lag len cap f v
  | 1, 1, _ => exact py_1_1 B n lag len cap f v
  | 1, 2, _ => exact py_1_2 B n lag len cap f v
  | 2, 0, _ => exact py_2_0 B n lag len cap f v
  | 2, 1, _ => exact py_2_1 B n lag len cap f v
  | 2, 2, _ => exact py_2_2 B n lag len cap f v
  | 3, 0, _ => exact py_3_0 B n lag len cap f v
  | 3, 1, _ => exact py_3_1 B n lag len cap f v
  | 3, 2, _ => exact py_3_2 B n lag len cap f v
  | 4, 0, _ => exact py_4_0 B n lag len cap f v
  | 4, 1, _ => exact py_4_1 B n lag len cap f v
  | 4, 2, _ => exact py_4_2 B n lag len cap f v
  | 5, 0, _ => exact py_5_0 B n lag len cap f v
  | 5, 1, _ => exact py_5_1 B n lag len cap f v
  | 5, 2, _ => exact py_5_2 B n lag len cap f v
  | 6, 0, _ => exact py_6_0 B n lag len cap f v
  | 6, 1, _ => exact py_6_1 B n lag len cap f v
  | 6, 2, _ => exact py_6_2 B n lag len cap f v
  | 7, 0, _ => exact py_7_0 B n lag len cap f v
  | 0, a + 1, h => exact absurd h (by unfold okK; simp)
  | 1, a + 3, h => exact absurd h (by unfold okK; simp [Nat.ble_eq])
  | 2, a + 3, h => exact absurd h (by unfold okK; simp [Nat.ble_eq])
  | 3, a + 3, h => exact absurd h (by unfold okK; simp [Nat.ble_eq])
  | 4, a + 3, h => exact absurd h (by unfold okK; simp [Nat.ble_eq])
  | 5, a + 3, h => exact absurd h (by unfold okK; simp [Nat.ble_eq])
  | 6, a + 3, h => exact absurd h (by unfold okK; simp [Nat.ble_eq])
  | 7, a + 1, h => exact absurd h (by unfold okK; simp)
  | k + 8, a, h => exact absurd h (by unfold okK; simp [Nat.ble_eq])
theorem dm_ok (K : Nat) (B : Bool) : ∀ c ∈ dmB K B, c = true := by
  intro c hc
  unfold dmB at hc
  split at hc
  · obtain rfl := List.mem_singleton.1 hc; cases B <;> rfl
  · obtain rfl := List.mem_singleton.1 hc; cases B <;> rfl
  · cases hc
def envB (p0 p1 : Nat × Nat) : Env := ⟨fun i => if i = 1 then p1 else p0, fun _ => 0⟩
theorem hpB {w : World} {p0 p1 : Nat × Nat} {cs : List Cv} {len : Nat} {f : Nat → Value} (hfree : cs.all Cv.freeB = true) (h0 : p0.1 < w.heap.size) (h1 : p1.1 < w.heap.size) (hc0 : ∀ off, off < len * 31 → w.cell? ⟨p0.1, p0.2 + off, none⟩ = some (f off)) (hc1 : ∀ j c, cs[j]? = some c → w.cell? ⟨p1.1, p1.2 + j, none⟩ = some (c.den env0)) :
    Hp (ctx0 w) (envB p0 p1) (Sx.look (stB cs len f)) w := by
  have two : ∀ i b, Sx.look (stB cs len f) (.k i) = some (.bk b) → (i = 1 ∧ b = .ar 134 true cs.length none) ∨ (i = 0 ∧ b = .oq 83 true (len * 31) f none) := by
    intro i b hib
    simp only [Sx.look, stB, alook] at hib
    cases h1 : Nat.beq 1 i with
    | true =>
      rw [h1] at hib
      obtain rfl := beq_iff'.1 h1
      exact Or.inl ⟨rfl, by simpa [Blk.info] using hib.symm⟩
    | false =>
      rw [h1] at hib
      cases h0 : Nat.beq 0 i with
      | true =>
        rw [h0] at hib
        obtain rfl := beq_iff'.1 h0
        exact Or.inr ⟨rfl, by simpa [Blk.info] using hib.symm⟩
      | false => rw [h0] at hib; cases hib
  refine ⟨fun _ h => h, ?_, ?_, ?_, ?_, ?_, ?_, ?_, ⟨fun _ _ h => (by cases h), fun _ _ h => (by cases h)⟩, ⟨rfl, rfl, rfl, Nat.le_refl _, fun _ _ _ => rfl⟩⟩
  · intro i j c hc
    simp only [Sx.look, stB, alook] at hc
    cases h1 : Nat.beq 1 i with
    | true =>
      rw [h1] at hc
      obtain rfl := beq_iff'.1 h1
      obtain ⟨c', hc1', hc2⟩ := Option.map_eq_some_iff.1 (show (cs[j]?).map LV.cv = some (.cv c) from hc)
      obtain rfl : c' = c := by simpa using hc2
      have hfc := List.all_eq_true.1 hfree _ (List.mem_of_getElem? hc1')
      refine ⟨Cv.free_sc hfc _, ⟨_, true, cs.length, none, rfl, (List.getElem?_eq_some_iff.1 hc1').1⟩, ?_⟩
      have := hc1 j c' hc1'
      have e1 := Cv.den_agree (s := fun _ => none) (e := env0) (e' := envB p0 p1) ⟨fun _ h => (by cases h), fun _ h => (by cases h)⟩ (Cv.free_sc hfc _)
      rw [e1]
      exact this
    | false =>
      rw [h1] at hc
      cases h0 : Nat.beq 0 i with
      | true => rw [h0] at hc; cases hc
      | false => rw [h0] at hc; cases hc
  · intro i t n cp hi off ho
    rcases two i _ hi with ⟨_, h2⟩ | ⟨_, h2⟩ <;> cases h2
  · intro i t r n g cp hi off ho
    rcases two i _ hi with ⟨_, h2⟩ | ⟨rfl, h2⟩
    · cases h2
    · cases h2
      exact ⟨hc0 off ho, fun h => by cases h⟩
  · intro i b c es hi hcp
    rcases two i _ hi with ⟨_, rfl⟩ | ⟨_, rfl⟩ <;> cases hcp
  · intro i j b b' hi _ hrw
    rcases two i _ hi with ⟨_, rfl⟩ | ⟨_, rfl⟩ <;> cases hrw
  · intro i b hi _
    rcases two i _ hi with ⟨rfl, _⟩ | ⟨rfl, _⟩
    · exact h1
    · exact h0
  · intro i b hi hrw
    rcases two i _ hi with ⟨_, rfl⟩ | ⟨_, rfl⟩ <;> cases hrw
theorem fn_pl : plF.body = some plCode ∧ (4 : Nat) ≤ plF.ntmps ∧ Try.prog.funcs[(49 : Nat)]? = some plF := ⟨by kernel_rfl, Nat.le_of_ble_eq_true (by kernel_rfl), Try.func49⟩
theorem brk_free {K A : Nat} {B : Bool} : (brkL K A B).all Cv.freeB = true := by
  unfold brkL
  split
  · rfl
  · rfl
  · cases Nat.ble 5 K <;> rfl
/-- What Play hands back, in any world. -/
theorem play_any {K A : Nat} {B : Bool} {n : Nat → Int} {lag : Int} {len : Nat} {cap : Nat × Nat} {f : Nat → Value} (hK : okK K A = true) (h0 : 0 < len) (hlen : len ≤ 2000) (hchk : chkR (nOf (gsL n)) = 0) (hl : 0 ≤ lag ∧ lag ≤ 7) (hf : ∀ j, j < len → truOk f j = true)
    {w : World} {p0 p1 : Nat × Nat} (hp0 : p0.1 < w.heap.size) (hp1 : p1.1 < w.heap.size) (hc0 : ∀ off, off < len * 31 → w.cell? ⟨p0.1, p0.2 + off, none⟩ = some (f off)) (hc1 : ∀ j c, (brkL K A B)[j]? = some c → w.cell? ⟨p1.1, p1.2 + j, none⟩ = some (c.den env0)) :
    Calls Try.prog 49 ((plA n lag (nbK K) len cap).map (·.den (envB p0 p1))).toArray w fun en w' => NewOw w w' len (len * 10) (pF K A B n lag f) en := by
  obtain ⟨f1, f2, f3⟩ := fn_pl
  refine (seg_ret tbl_ok f3 f1 (args := plA n lag (nbK K) len cap) f2 (py_seg (K := K) (A := A) (B := B) (cap := cap) (fun v => py_all hK B n lag len cap f v) h0 hlen hchk hl (dm_ok K B) hf) (hpB brk_free hp0 hp1 hc0 hc1) (fun x hx => ?_)).mono fun en w' => ?_
  · simp only [plA, List.mem_cons, List.not_mem_nil, or_false] at hx
    rcases hx with rfl | rfl | rfl | rfl
    · exact Sv.free_sc (show (Sv.agg _).freeB = true from symL_free _ _ _ _) _
    · trivial
    · unfold slB
      cases Nat.beq (nbK K) 0 with
      | true => trivial
      | false => exact ⟨rfl, trivial, trivial, trivial⟩
    · exact ⟨rfl, trivial, trivial, trivial⟩
  · rintro ⟨y, v, e', ⟨id, c, t, cp, g, hv, hb, hg⟩, hv', rfl, hsc, hp, hB⟩
    rw [hv] at hv'
    obtain rfl := Option.some.inj hv'
    have hk : Sx.look y.2 (.k id) = some (.bk (.oq t false (len * 10) g cp)) := by simp only [Sx.look, hb]; rfl
    refine ⟨(e'.pl id).1, (e'.pl id).2, e'.nm c, rfl, hp.mu id _ hk rfl, hp.lt id _ hk rfl, fun j hj => ?_, hB⟩
    rw [← hg j hj]
    exact ⟨(hp.oq id _ _ _ g _ hk j hj).1, (hp.oq id _ _ _ g _ hk j hj).2 rfl⟩
end Go.Proofs.Ytgiinciclnekjaa

/-
  The rule of Play, for a caller's state.
-/
set_option linter.unusedSimpArgs false
set_option linter.unusedVariables false
namespace Go.Proofs.Ytgiinciclnekjaa
open Sx Go.RowKit
/-- The faults that are handed over: which case, and what is demanded. -/
def brOf (σ : St) : Sv → Option (Nat × Nat × Bool × Bool)
  | .one (.val (.slice none 0 0)) => some (0, 0, false, true)
  | .one (.slc id (.lit 0) (.lit 1) _) => match alook σ.bk id with
    | some (.ar _ _ (.i .i64 k _ :: .i .i64 a _ :: .b b _ :: _) _) => some (k.toNat, a.toNat, b, decide (1 ≤ k ∧ k ≤ 6 ∧ 0 ≤ a ∧ a ≤ 2) && (!b || decide (5 ≤ k)))
    | _ => none
  | .one (.slc id (.lit 0) (.lit 2) _) => match alook σ.bk id with
    | some (.ar _ _ (.i .i64 k _ :: .i .i64 a _ :: .b b _ :: .i .i64 k2 _ :: .i .i64 a2 _ :: .b b2 _ :: _) _) => some (7, 0, false, decide (k = 3 ∧ a = 0 ∧ k2 = 3 ∧ a2 = 1) && (!b && !b2))
    | _ => none
  | _ => none
/-- What is demanded besides. -/
def plDem (n : Nat → Int) (lag : Int) (len m : Nat) : Bool := chkR (nOf (gsL n)) == 0 && (decide (0 ≤ lag ∧ lag ≤ 7) && decide (0 < len ∧ len ≤ 2000 ∧ len * 31 ≤ m))
noncomputable def plRule : List Sv → St → Tree FLeaf
  | [.agg gs, .one (.i .i64 lag _), br, .one (.slc id (.lit 0) (.opq len) _)], σ => match alook σ.bk id with
    | some (.oq t _ m f _) => match Nat.beq t 83 && (isL lsG gs && freshB σ) with
      | true => match brOf σ br with
        | some (K, A, B, d) => .must d (.must (plDem (nOf gs) lag len m) (.must ((List.range len).all (truOk f)) (.leaf (owSv σ len, addOw σ 131 (len * 10) (pF K A B (nOf gs) lag f)))))
        | none => .fail
      | false => .fail
    | _ => .fail
  | _, _ => .fail
theorem gs_any (b : Nat → Bool) (n : Nat → Int) : symL b n 0 lsG = symL (fun _ => false) n 0 lsG := rfl
/-- The faults, in memory. -/
theorem brOf_at {σ : St} {br : Sv} {K A : Nat} {B d : Bool} (h : brOf σ br = some (K, A, B, d)) (hd : d = true) {C : Ctx} {e : Env} {w : World} (hp : Hp C e (Sx.look σ) w) {p0 : Nat × Nat} (h0 : p0.1 < w.heap.size) :
    okK K A = true ∧ ∃ (p1 : Nat × Nat) (cp : Nat), p1.1 < w.heap.size ∧ br.den e = (slB (nbK K) cp).den (envB p0 p1) ∧ ∀ j c, (brkL K A B)[j]? = some c → w.cell? ⟨p1.1, p1.2 + j, none⟩ = some (c.den env0) := by
  unfold brOf at h
  split at h
  · simp only [Option.some.injEq, Prod.mk.injEq] at h
    obtain ⟨rfl, rfl, rfl, rfl⟩ := h
    exact ⟨rfl, p0, 0, h0, rfl, fun j c hc => by cases hc⟩
  · rename_i id cp
    split at h
    · rename_i t ro k fk a fa b fb r cpp hb
      simp only [Option.some.injEq, Prod.mk.injEq] at h
      obtain ⟨rfl, rfl, rfl, rfl⟩ := h
      rw [Bool.and_eq_true] at hd
      obtain ⟨d1, d2⟩ := hd
      obtain ⟨q1, q2, q3, q4⟩ := of_decide_eq_true d1
      obtain ⟨k', rfl⟩ := Int.eq_ofNat_of_zero_le (show 0 ≤ k by omega)
      obtain ⟨a', rfl⟩ := Int.eq_ofNat_of_zero_le q3
      have hk1 : 1 ≤ k' := by omega
      have hk6 : k' ≤ 6 := by omega
      have ha2 : a' ≤ 2 := by omega
      have hkk : Sx.look σ (.k id) = some (.bk (.ar t ro (r.length + 3) cpp)) := by simp only [Sx.look, hb]; rfl
      have cell : ∀ (j : Nat) (c : Cv), (Cv.i .i64 (k' : Int) fk :: Cv.i .i64 (a' : Int) fa :: Cv.b b fb :: r)[j]? = some c → w.cell? (e.ad id j) = some (c.den e) := fun j c hc => (hp.cl id j c (by simp only [Sx.look, hb, Option.bind_some, Blk.cell, hc]; rfl)).2.2
      have hnb : nbK k' = 1 ∧ brkL k' a' b = [.i .i64 k' true, .i .i64 a' true, bif Nat.ble 5 k' then .b b false else .b false true] ∧ okK k' a' = true := by
        have : k' = 1 ∨ k' = 2 ∨ k' = 3 ∨ k' = 4 ∨ k' = 5 ∨ k' = 6 := by omega
        have h2 : a' = 0 ∨ a' = 1 ∨ a' = 2 := by omega
        rcases this with rfl | rfl | rfl | rfl | rfl | rfl <;> refine ⟨rfl, rfl, ?_⟩ <;> rcases h2 with rfl | rfl | rfl <;> rfl
      refine ⟨hnb.2.2, e.pl id, cp.den e, hp.lt id _ hkk rfl, ?_, fun j c hc => ?_⟩
      · show Value.slice (some (e.ad id 0)) 1 (cp.den e) = _
        show _ = (slB (nbK k') (cp.den e)).den (envB p0 (e.pl id))
        rw [hnb.1]
        rfl
      · show w.cell? (e.ad id j) = _
        have hc' : (brkL k' a' b)[j]? = some c := hc
        rw [hnb.2.1] at hc'
        match j, hc' with
        | 0, hc' => obtain rfl := Option.some.inj hc'; exact cell 0 _ rfl
        | 1, hc' => obtain rfl := Option.some.inj hc'; exact cell 1 _ rfl
        | 2, hc' =>
          obtain rfl := Option.some.inj hc'
          rw [cell 2 _ rfl]
          cases h5 : Nat.ble 5 k' with
          | true => rfl
          | false =>
            have hb0 : b = false := by
              have : ¬ 5 ≤ k' := fun h => by rw [Nat.ble_eq_true_of_le h] at h5; cases h5
              cases b with
              | false => rfl
              | true =>
                have d3 := of_decide_eq_true (show decide (5 ≤ (k' : Int)) = true from d2)
                omega
            rw [hb0]; rfl
        | j + 3, hc' => cases hc'
    · cases h
  · rename_i id cp
    split at h
    · rename_i t ro k fk a fa b fb k2 fk2 a2 fa2 b2 fb2 r cpp hb
      simp only [Option.some.injEq, Prod.mk.injEq] at h
      obtain ⟨rfl, rfl, rfl, rfl⟩ := h
      rw [Bool.and_eq_true, Bool.and_eq_true] at hd
      obtain ⟨d1, d2, d3⟩ := hd
      obtain ⟨rfl, rfl, rfl, rfl⟩ := of_decide_eq_true d1
      have d2 : b = false := by simpa using d2
      have d3 : b2 = false := by simpa using d3
      subst d2 d3
      have hkk : Sx.look σ (.k id) = some (.bk (.ar t ro (r.length + 6) cpp)) := by simp only [Sx.look, hb]; rfl
      have cell : ∀ (j : Nat) (c : Cv), (Cv.i .i64 3 fk :: Cv.i .i64 0 fa :: Cv.b false fb :: Cv.i .i64 3 fk2 :: Cv.i .i64 1 fa2 :: Cv.b false fb2 :: r)[j]? = some c → w.cell? (e.ad id j) = some (c.den e) := fun j c hc => (hp.cl id j c (by simp only [Sx.look, hb, Option.bind_some, Blk.cell, hc]; rfl)).2.2
      refine ⟨rfl, e.pl id, cp.den e, hp.lt id _ hkk rfl, rfl, fun j c hc => ?_⟩
      show w.cell? (e.ad id j) = _
      match j, hc with
      | 0, hc => obtain rfl := Option.some.inj hc; exact cell 0 _ rfl
      | 1, hc => obtain rfl := Option.some.inj hc; exact cell 1 _ rfl
      | 2, hc => obtain rfl := Option.some.inj hc; exact cell 2 _ rfl
      | 3, hc => obtain rfl := Option.some.inj hc; exact cell 3 _ rfl
      | 4, hc => obtain rfl := Option.some.inj hc; exact cell 4 _ rfl
      | 5, hc => obtain rfl := Option.some.inj hc; exact cell 5 _ rfl
      | j + 6, hc => cases hc
    · cases h
  · cases h
theorem plRule_ok {args : List Sv} {σ : St} {y : FLeaf} (hy : (plRule args σ).At y) : FunOk Try.prog 49 args σ y.1 y.2 := by
  unfold plRule at hy
  split at hy
  · rename_i gs lag fl br id len cp
    split at hy
    · rename_i t ro m f cpp hb
      split at hy
      · rename_i hL
        simp only [Bool.and_eq_true] at hL
        obtain ⟨h1, h2, h3⟩ := hL
        obtain rfl := beq_iff'.1 h1
        split at hy
        · rename_i K A B d hbr
          obtain ⟨hd, hq, hf, hy2⟩ := hy
          obtain rfl : _ = y := hy2
          unfold plDem at hq
          simp only [Bool.and_eq_true] at hq
          obtain ⟨q1, q2, q3⟩ := hq
          obtain ⟨q4, q5, q6⟩ := of_decide_eq_true q3
          unfold freshB at h3
          rw [Bool.and_eq_true] at h3
          refine FunOk.of_rowW (by simpa using h3.1) (by simpa using h3.2) fun C e w hp ha => ?_
          have hk : Sx.look σ (.k id) = some (.bk (.oq 83 ro m f cpp)) := by simp only [Sx.look, hb]; rfl
          have hlt := hp.lt id _ hk rfl
          obtain ⟨g1, p1, cpb, g2, g3, g4⟩ := brOf_at hbr hd hp (p0 := e.pl id) hlt
          have := play_any (K := K) (A := A) (B := B) (n := nOf gs) (lag := lag) (len := len) (cap := (cp.den e, cpb)) (f := f) g1 q4 q5 (by simpa using q1) (of_decide_eq_true q2) (fun j hj => List.all_eq_true.1 hf j (List.mem_range.2 hj)) (w := w) (p0 := e.pl id) (p1 := p1) hlt g2 (fun off ho => (hp.oq id _ _ _ f _ hk off (by omega)).1) g4
          have e1 := canon_den h2 e (envB (e.pl id) p1)
          have ee : [Sv.agg gs, Sv.one (Cv.i .i64 lag fl), br, Sv.one (Cv.slc id (.lit 0) (.opq len) cp)].map (·.den e) = (plA (nOf gs) lag (nbK K) len (cp.den e, cpb)).map (·.den (envB (e.pl id) p1)) := by
            show [Sv.den e (Sv.agg gs), Value.int .i64 lag, br.den e, Value.slice (some (e.ad id 0)) len (cp.den e)] = [Sv.den (envB (e.pl id) p1) (Sv.agg (symL (fun _ => false) (nOf gs) 0 lsG)), Value.int .i64 lag, (slB (nbK K) cpb).den (envB (e.pl id) p1), Value.slice (some (e.ad id 0)) len (cp.den e)]
            rw [e1, g3]; rfl
          rw [ee]
          exact this
        · exact hy.elim
      · exact hy.elim
    · exact hy.elim
  · exact hy.elim
end Go.Proofs.Ytgiinciclnekjaa

/-
  A struct whose last field is a slice.
-/
set_option linter.unusedSimpArgs false
set_option linter.unusedVariables false
namespace Go.Proofs.Ytgiinciclnekjaa
namespace Sx
open Go.RowKit Go.ChangeShapes Go.WideShapes

section
variable {P : Program} {tb : Tb} {H : Type} {enc : TypeId × Value → H} {w : World} {base : Nat} {spare : Nat → Bool} {held : Bool} {t : TypeId} {v : Value} {dt : DataW H} {ps : List MemPlace} {r : Reach} {b0 : Nat}
/-- What a slice of plain structs is. -/
def RowIs (w : World) (sz : Nat) (lse : List Lf) (x : Value) : Prop := (∃ a c, x = .slice a 0 c) ∨ ∃ (b off len cap : Nat) (f : Nat → Value), x = .slice (some ⟨b, off, none⟩) len cap ∧ 0 < len ∧ len ≤ maxLen ∧ b < w.heap.size ∧ (∀ k, k < len * sz → w.cell? ⟨b, off + k, none⟩ = some (f k)) ∧ ∀ j, j < len → All2 Lf.ok lse (elAt f sz j)
theorem open_last (hT : TbOk P tb) {fs : Array Field} {fs0 : List Field} {fl : Field} {ls lse : List Lf} {te : TypeId} {i : TypeInfo} (hu : tb.und t = some (.struct fs)) (hfs : fs.toList = fs0 ++ [fl]) (hls : lvFs tb (leaves tb 20) fs0 0 = some ls) (hoff : fl.offset = ls.length) (hsz : P.cellsOf t = ls.length + 1)
    (hcl : P.cellsOf fl.type = 1) (hsl : tb.und fl.type = some (.slice te)) (hi : tb.info te = some i) (hl : leaves tb 20 te = some lse) (h0 : 0 < i.size) (hv : Value.okWide P w r b0 t v) (h : DataW.Trod enc P w base spare held t v dt ps) :
    ∃ (bs : Nat → Bool) (ns : Nat → Int) (x : Value), v = .agg ((symL bs ns 0 ls).map (·.den env0) ++ [x]).toArray ∧ WfL ns ls ∧ RowIs w i.size lse x := by
  obtain ⟨cs, rfl, hcs⟩ := okWide_struct (hT.und hu) hv
  obtain ⟨fuel, hf⟩ := h
  have hx : DataW.trod enc P w base spare held fuel t cs.toList = some (dt, ps) := by simpa [Value.cells] using hf
  obtain ⟨xs, m, _, _, hlen, hxl, hg⟩ := DataW.trod_struct (hT.und hu) hx
  have hxs : xs.length = fs0.length + 1 := by
    rw [hxl]
    have := congrArg List.length hfs
    simpa using this
  have hfld : ∀ (j : Nat) (fd : Field), (fs0 ++ [fl])[j]? = some fd → ∃ x, DataW.trod enc P w base spare held m fd.type ((cs.toList.drop fd.offset).take (P.cellsOf fd.type)) = some x := by
    intro j fd hj
    have h1 := hg j fd (by rw [← Array.getElem?_toList, hfs]; exact hj)
    have hlt : j < xs.length := by
      rw [hxs]
      have := (List.getElem?_eq_some_iff.1 hj).1
      simpa using this
    rw [List.getElem?_eq_getElem hlt] at h1
    exact ⟨_, h1⟩
  have h2 := lvFs_ok hT (leaves_ok hT 20) (m := m) (cs := cs.toList) hls fun fd hfd => by
    obtain ⟨j, hj⟩ := List.getElem?_of_mem hfd
    exact hfld j fd (by rw [List.getElem?_append_left (List.getElem?_eq_some_iff.1 hj).1]; exact hj)
  obtain ⟨x, h3⟩ := hfld fs0.length fl (by simp)
  have hn : cs.toList.length = ls.length + 1 := by rw [Array.length_toList, hcs, hsz]
  have hlast : ∃ y, cs.toList = cs.toList.take ls.length ++ [y] := by
    refine ⟨cs.toList[ls.length]'(by omega), ?_⟩
    have h5 : (cs.toList.drop ls.length) = [cs.toList[ls.length]'(by omega)] := by
      rw [List.drop_eq_getElem_cons (by omega), List.drop_eq_nil_of_le (by omega)]
    rw [← h5, List.take_append_drop]
  obtain ⟨y, hy⟩ := hlast
  have h3' : DataW.trod enc P w base spare held m fl.type [y] = some x := by
    rw [hcl, hoff, hy, List.drop_left' (by rw [List.length_take]; omega)] at h3
    exact h3
  rw [List.drop_zero] at h2
  obtain ⟨h6, h7⟩ := symL_of (c0 := cs.toList.take ls.length) (j := 0) h2 (fun i => by rw [Nat.zero_add])
  refine ⟨getB (cs.toList.take ls.length), getN (cs.toList.take ls.length), y, ?_, fun j k hj => by have := h7 j k hj; rwa [Nat.zero_add] at this, open_rows hT hsl hi hl h0 h3'⟩
  rw [← h6 env0, ← hy]
end
end Sx
end Go.Proofs.Ytgiinciclnekjaa

/-
  The guard and the truths of a life, as rules.
-/
set_option linter.unusedSimpArgs false
set_option linter.unusedVariables false
namespace Go.Proofs.Ytgiinciclnekjaa
open Sx Go.RowKit
set_option maxRecDepth 100000
/-- The plain cells of a life; of a tick. -/
def lsLf : List Lf := [.i .u8, .i .u8, .b, .i .u8] ++ List.replicate 7 (.i .u8) ++ [.i .u8] ++ List.replicate 5 (.i .u8)
def lsTk : List Lf := List.replicate 21 (.i .i8) ++ List.replicate 5 (.i .i32) ++ [.i .u8]
def haF (g : Nat → Int) (q : Nat) : Int := bif (g (6 + q)).tmod 2 == 1 then IntKind.i64.wrap (IntKind.i64.wrap ((g (6 + q)).tdiv 2) + 1) else IntKind.i64.wrap ((g (6 + q)).tdiv 2)
def valF (lim h n s : Int) : Int := bif decide (n > 0) then IntKind.i64.wrap (lim + IntKind.i64.wrap (s * IntKind.i64.wrap (h + n))) else IntKind.i64.wrap (lim - IntKind.i64.wrap (s * IntKind.i64.wrap (h - n)))
def trV (g t : Nat → Int) : Nat → Int
  | 0 => valF (g 0) (haF g 0) (IntKind.i64.wrap (t 0)) 1
  | 1 => valF (g 1) (haF g 1) (IntKind.i64.wrap (t 1)) (-1)
  | 2 => bif decide (t 3 > 0) then valF (IntKind.i64.wrap (0 - g 3)) (haF g 2) (IntKind.i64.wrap (t 3)) (-1) else valF (g 2) (haF g 2) (IntKind.i64.wrap (t 2)) 1
  | 3 => valF (g 4) (haF g 3) (IntKind.i64.wrap (t 4)) 1
  | _ => valF (g 5) (haF g 4) (IntKind.i64.wrap (t 5)) (-1)
def erF (g t : Nat → Int) (j q : Nat) : Int := IntKind.i64.wrap ((IntKind.i64.wrap (IntKind.i64.wrap (t (6 + j)) * IntKind.i64.wrap ((g (6 + q)).tdiv 2))).tdiv 128)
/-- A flag of a tick. -/
def fgI (t : Nat → Int) (m : Int) : Int := IntKind.u8.wrap ((BitVec.ofInt IntKind.u8.bits (t 26) &&& BitVec.ofInt IntKind.u8.bits m).toNat : Int)
/-- The numbers of a truth. -/
def trN (g t : Nat → Int) (j : Nat) : Int := bif Nat.blt j 5 then trV g t j else bif Nat.blt j 20 then erF g t (j - 5) ((j - 5) % 5) else bif Nat.blt j 25 then IntKind.i64.wrap (t (21 + (j - 20))) else bif Nat.beq j 27 then (bif fgI t 48 == 48 then 0 else 400000000) else 400000000
def trBl (t : Nat → Int) (j : Nat) : Bool := bif Nat.beq j 25 then fgI t 1 == 1 else bif Nat.beq j 26 then fgI t 2 == 2 else bif Nat.beq j 29 then fgI t 4 == 0 else fgI t 8 == 8
def trC (g t : Nat → Int) : List Cv := symL (trBl t) (trN g t) 0 lsT
def stripV : Sv → Option (List Cv)
  | .agg cs => match cs.all Cv.freeB with
    | true => some (cs.map Cv.strip)
    | false => none
  | _ => none
/-- The one value that is handed back, where nothing is demanded. -/
def oneV (T : Tree FLeaf) : Option (List Cv) := match peelF T with
  | some ([], (v, _)) => stripV v
  | _ => none
noncomputable def trT (g t : Nat → Int) : Tree FLeaf := evFn tbl wr5 (fun _ => none) 300 12 48 [.agg (symL (fun _ => false) g 0 lsG), .agg (symL (fun _ => false) t 0 lsTk)] st0
theorem tr_eval (g t : Nat → Int) : oneV (trT g t) = some ((trC g t).map Cv.strip) := by kernel_rfl
/-- The numbers of a guard. -/
def guN (x : Nat → Int) (j : Nat) : Int := match j with
  | 0 => 4200000
  | 1 => 2800000
  | 2 => 100000
  | 3 => 50000
  | 4 => 330000
  | 5 => 100000
  | 18 => 58982
  | 19 => 5
  | 20 => IntKind.i64.wrap (1 + (IntKind.i64.wrap (x 11)).tmod 8)
  | 21 => 2000
  | j => bif Nat.blt j 11 then IntKind.i64.wrap (x (6 + j)) else IntKind.i64.wrap (1 + (IntKind.i64.wrap (x (4 + (j - 11)))).tmod 6)
def guC (x : Nat → Int) : List Cv := symL (fun _ => false) (guN x) 0 lsG
noncomputable def guT (b : Nat → Bool) (x : Nat → Int) (a : Option Addr) (n c : Nat) : Tree FLeaf := evFn tbl wr5 (fun _ => none) 300 12 47 [.agg (symL b x 0 lsLf ++ [.val (.slice a n c)])] st0
theorem gu_eval (b : Nat → Bool) (x : Nat → Int) (a : Option Addr) (n c : Nat) : oneV (guT b x a n c) = some ((guC x).map Cv.strip) := by kernel_rfl
theorem oneV_at {T : Tree FLeaf} {X : List Cv} (h : oneV T = some X) : ∃ (cs : List Cv) (σ : St), AtH T (.agg cs, σ) ∧ cs.all Cv.freeB = true ∧ cs.map Cv.strip = X := by
  unfold oneV at h
  split at h
  · rename_i v σ hp
    unfold stripV at h
    split at h
    · rename_i cs
      split at h
      · rename_i hf
        exact ⟨cs, σ, ⟨peelF_at hp (fun b hb => by cases hb)⟩, hf, Option.some.inj h⟩
      · cases h
    · cases h
  · cases h
theorem agg_same {A B : List Cv} (h : A.map Cv.strip = B.map Cv.strip) (e : Env) : (Sv.agg A).den e = (Sv.agg B).den e := by
  show Value.agg (densA e A) = Value.agg (densA e B)
  have key : ∀ X : List Cv, X.map (·.den e) = (X.map Cv.strip).map (·.den e) := fun X => by
    rw [List.map_map]
    exact List.map_congr_left fun c _ => (Cv.strip_den c e).symm
  unfold densA
  rw [key A, key B, h]
theorem trT_eq (g t : Nat → Int) : trT g t = evFn tbl wr5 (fun _ => none) 300 12 48 [.agg (symL (fun _ => false) g 0 lsG), .agg (symL (fun _ => false) t 0 lsTk)] st0 := by unfold trT; rfl
theorem guT_eq (b : Nat → Bool) (x : Nat → Int) (a : Option Addr) (n c : Nat) : guT b x a n c = evFn tbl wr5 (fun _ => none) 300 12 47 [.agg (symL b x 0 lsLf ++ [.val (.slice a n c)])] st0 := by unfold guT; rfl
theorem all2_app {α β : Type} {R : α → β → Prop} {a : List α} {b : List β} (h : All2 R a b) : a.length = b.length := h.length
/-- The rule of a truth. -/
def trRule : List Sv → St → Tree FLeaf
  | [.agg gs, .agg ts], σ => match isL lsG gs && isL lsTk ts with
    | true => .leaf (.agg (trC (nOf gs) (nOf ts)), σ)
    | false => .fail
  | _, _ => .fail
theorem tk_any (b : Nat → Bool) (n : Nat → Int) : symL b n 0 lsTk = symL (fun _ => false) n 0 lsTk := rfl
theorem trRule_ok {args : List Sv} {σ : St} {y : FLeaf} (hy : (trRule args σ).At y) : FunOk Try.prog 48 args σ y.1 y.2 := by
  unfold trRule at hy
  split at hy
  · rename_i gs ts
    split at hy
    · rename_i hL
      rw [Bool.and_eq_true] at hL
      obtain ⟨h1, h2⟩ := hL
      obtain rfl : _ = y := hy
      have hfree : (Sv.agg (trC (nOf gs) (nOf ts))).freeB = true := symL_free _ _ _ _
      refine FunOk.of_any hfree fun e w => ?_
      obtain ⟨cs, σ', g1, g2, g3⟩ := oneV_at (tr_eval (nOf gs) (nOf ts))
      have h3 := (evFn_hid0 (trT_eq (nOf gs) (nOf ts)) g1).any (fun x hx => by
        simp only [List.mem_cons, List.not_mem_nil, or_false] at hx
        rcases hx with rfl | rfl <;> exact symL_free _ _ _ _) g2 w
      have e1 := canon_den h1 e env0
      have e2 := canon_den h2 e env0
      have e3 : [Sv.agg gs, Sv.agg ts].map (·.den e) = [Sv.agg (symL (fun _ => false) (nOf gs) 0 lsG), Sv.agg (symL (fun _ => false) (nOf ts) 0 lsTk)].map (·.den env0) := by
        show [Sv.den e (Sv.agg gs), Sv.den e (Sv.agg ts)] = [Sv.den env0 (Sv.agg (symL (fun _ => false) (nOf gs) 0 lsG)), Sv.den env0 (Sv.agg (symL (fun _ => false) (nOf ts) 0 lsTk))]
        rw [e1, e2]
        rfl
      rw [e3]
      refine h3.mono fun en w' => ?_
      rintro ⟨rfl, hb⟩
      refine ⟨?_, hb⟩
      rw [Sv.free_den hfree env0 e]
      exact congrArg Ending.returned (agg_same g3 env0)
    · exact hy.elim
  · exact hy.elim
theorem densA_app (e : Env) (a b : List Cv) : densA e (a ++ b) = densA e a ++ densA e b := by simp [densA]
/-- The rule of a guard. -/
def guRule : List Sv → St → Tree FLeaf
  | [.agg xs], σ => match isL lsLf (xs.take 17), xs.drop 17 with
    | true, [.slc _ _ _ _] => .leaf (.agg (guC (nOf (xs.take 17))), σ)
    | true, [.val (.slice _ _ _)] => .leaf (.agg (guC (nOf (xs.take 17))), σ)
    | _, _ => .fail
  | _, _ => .fail
theorem gu_any {xs : List Cv} (h1 : isL lsLf (xs.take 17) = true) {e : Env} {w : World} {x : Cv} {a : Option Addr} {n c : Nat} (h2 : xs.drop 17 = [x]) (hx : x.den e = .slice a n c) :
    Calls Try.prog 47 ([Sv.agg xs].map (·.den e)).toArray w fun en w' => en = .returned ((Sv.agg (guC (nOf (xs.take 17)))).den e) ∧ Below w.heap.size w w' := by
  have hfree : (Sv.agg (guC (nOf (xs.take 17)))).freeB = true := symL_free _ _ _ _
  obtain ⟨cs, σ', g1, g2, g3⟩ := oneV_at (gu_eval (bOf (xs.take 17)) (nOf (xs.take 17)) a n c)
  have h3 := (evFn_hid0 (guT_eq (bOf (xs.take 17)) (nOf (xs.take 17)) a n c) g1).any (fun x hx => by
    simp only [List.mem_cons, List.not_mem_nil, or_false] at hx
    subst hx
    show (symL _ _ _ _ ++ _).all Cv.freeB = true
    rw [List.all_append, symL_free]; rfl) g2 w
  have e1 := canon_den h1 e env0
  have e3 : [Sv.agg xs].map (·.den e) = [Sv.agg (symL (bOf (xs.take 17)) (nOf (xs.take 17)) 0 lsLf ++ [.val (.slice a n c)])].map (·.den env0) := by
    show [Value.agg (densA e xs)] = [Value.agg (densA env0 (symL (bOf (xs.take 17)) (nOf (xs.take 17)) 0 lsLf ++ [.val (.slice a n c)]))]
    have e4 : densA e (xs.take 17) = densA env0 (symL (bOf (xs.take 17)) (nOf (xs.take 17)) 0 lsLf) := by
      have : Value.agg (densA e (xs.take 17)) = Value.agg (densA env0 (canon lsLf (xs.take 17))) := e1
      injection this
    have e5 : densA e xs = densA e (xs.take 17) ++ densA e (xs.drop 17) := by
      rw [← densA_app, List.take_append_drop]
    have e6 : densA e [x] = densA env0 [.val (.slice a n c)] := by
      unfold densA
      show ([x.den e] : List Value).toArray = [Value.slice a n c].toArray
      rw [hx]
    rw [e5, e4, h2, e6, densA_app]
  rw [e3]
  refine h3.mono fun en w' => ?_
  rintro ⟨rfl, hb⟩
  refine ⟨?_, hb⟩
  rw [Sv.free_den hfree env0 e]
  exact congrArg Ending.returned (agg_same g3 env0)
theorem guRule_ok {args : List Sv} {σ : St} {y : FLeaf} (hy : (guRule args σ).At y) : FunOk Try.prog 47 args σ y.1 y.2 := by
  unfold guRule at hy
  split at hy
  · rename_i xs
    split at hy
    · rename_i id off len cap h1 h2
      obtain rfl : _ = y := hy
      exact FunOk.of_any (symL_free _ _ _ _) fun e w => gu_any h1 h2 rfl
    · rename_i a n c h1 h2
      obtain rfl : _ = y := hy
      exact FunOk.of_any (symL_free _ _ _ _) fun e w => gu_any h1 h2 rfl
    · exact hy.elim
  · exact hy.elim
end Go.Proofs.Ytgiinciclnekjaa

/-
  A machine's step: causes, and what is driven.
-/
set_option linter.unusedSimpArgs false
set_option linter.unusedVariables false
namespace Go.Proofs.Ytgiinciclnekjaa
open Sx Go.RowKit
section
variable (n : Nat → Int) (b : Nat → Bool) (m : Nat → Int) (h : Nat → Bool) (s : Nat → Int)
/-- The new cause, where the signals are taken. -/
def caX (p : Int) : Int := pick6 p fun k => bif decide (k = 5) then cW n b m h s else bif decide (k = 4) then ca4 n b m h s else bif decide (k = 3) then cs3 n b m h s else bif decide (k = 2) then ca2 n b m h s else bif decide (k = 1) then ca1 n b m h s else ca0 n b m h s
theorem caX0 : caX n b m h s 0 = ca0 n b m h s := by unfold caX; exact pk0 _
theorem caX1 : caX n b m h s 1 = ca1 n b m h s := by unfold caX; exact pk1 _
theorem caX2 : caX n b m h s 2 = ca2 n b m h s := by unfold caX; exact pk2 _
theorem caX3 : caX n b m h s 3 = cs3 n b m h s := by unfold caX; exact pk3 _
theorem caX4 : caX n b m h s 4 = ca4 n b m h s := by unfold caX; exact pk4 _
theorem caX5 : caX n b m h s 5 = cW n b m h s := by unfold caX; exact pk5 _
theorem four_2 {T : Tree FLeaf} {x : Int × Int × Int × Int} (h : four T = x) : nOf (stC T) 1 = x.2.1 := by subst h; rfl
theorem nwI1 {p : Int} (hp : 0 ≤ p ∧ p < 6) (hE : eS s = false) : nwI 1 p n b m h s = caX n b m h s p := by
  unfold nwI
  rcases six hp with rfl | rfl | rfl | rfl | rfl | rfl
  · rw [pk0, caX0]; exact (four_2 (four0 n b m h s)).trans (by rw [hE]; rfl)
  · rw [pk1, caX1]; exact (four_2 (four1 n b m h s)).trans (by rw [hE]; rfl)
  · rw [pk2, caX2]; exact (four_2 (four2 n b m h s)).trans (by rw [hE]; rfl)
  · rw [pk3, caX3]; exact (four_2 (four3 n b m h s)).trans (by rw [hE]; rfl)
  · rw [pk4, caX4]; exact (four_2 (four4 n b m h s)).trans (by rw [hE]; rfl)
  · rw [pk5, caX5]; exact (four_2 (four5 n b m h s)).trans (by rw [hE]; rfl)
/-- A cause that is there stays, but for a reset. -/
theorem caX_ne {p : Int} (hp : 0 ≤ p ∧ p < 6) (hw : cW n b m h s ≠ 0) (hr : rsB n b m h s = false) : caX n b m h s p ≠ 0 := by
  have e1 : (cW n b m h s == 0) = false := by simpa using hw
  have e2 : (cW n b m h s != 0) = true := by simpa using hw
  rcases six hp with rfl | rfl | rfl | rfl | rfl | rfl
  · rw [caX0]; unfold ca0; rw [e2]; exact hw
  · rw [caX1]; unfold ca1 t1B; rw [e2]; exact hw
  · rw [caX2]; unfold ca2
    rw [e1]
    cases decide (mi2 m h > n 20) <;> exact hw
  · rw [caX3]; unfold cs3 ca3
    rw [e1]
    cases loB n m <;> cases ccB n b h s <;> cases clB h <;> exact hw
  · rw [caX4]; unfold ca4
    rw [hr]
    cases fiB n b m h s <;> exact hw
  · rw [caX5]; exact hw
theorem cW_crash (hc : 2 ≤ cn3 h 18 ∨ 2 ≤ cn3 h 21) : cW n b m h s ≠ 0 := by
  unfold cW cC
  by_cases h1 : 2 ≤ cn3 h 18
  · have e1 : decide (cn3 h 18 ≥ 2) = true := decide_eq_true h1
    rw [e1]
    by_cases h0 : cA n b m h s 7 = 0
    · rw [h0]
      cases decide (cn3 h 21 ≥ 2) <;> decide
    · have e0 : (cA n b m h s 7 == 0) = false := by simpa using h0
      simp only [e0, cond_true, cond_false]
      cases decide (cn3 h 21 ≥ 2) <;> exact h0
  · have h2 : 2 ≤ cn3 h 21 := hc.resolve_left h1
    have e1 : decide (cn3 h 18 ≥ 2) = false := decide_eq_false h1
    have e2 : decide (cn3 h 21 ≥ 2) = true := decide_eq_true h2
    rw [e1, e2]
    simp only [cond_true, cond_false]
    by_cases h0 : cA n b m h s 7 = 0
    · rw [h0]; decide
    · have e0 : (cA n b m h s 7 == 0) = false := by simpa using h0
      rw [e0]; exact h0
theorem rsB_crash (hc : 2 ≤ cn3 h 18 ∨ 2 ≤ cn3 h 21) : rsB n b m h s = false := by
  unfold rsB
  rcases hc with h1 | h1
  · have e1 : decide (cn3 h 18 ≥ 2) = true := decide_eq_true h1
    rw [e1]
    cases h 30 <;> cases noB n b h s <;> rfl
  · have e1 : decide (cn3 h 21 ≥ 2) = true := decide_eq_true h1
    rw [e1]
    cases h 30 <;> cases noB n b h s <;> cases decide (cn3 h 18 ≥ 2) <;> rfl
theorem four12 : (4 : Int) ≠ 1 ∧ (4 : Int) ≠ 2 := by decide
theorem three12 : (3 : Int) ≠ 1 ∧ (3 : Int) ≠ 2 := by decide
/-- Where there is a cause, the phase is none in which anything is driven. -/
theorem phX_off {p : Int} (hp : 0 ≤ p ∧ p < 6) (hc : caX n b m h s p ≠ 0) : phX n b m h s p ≠ 1 ∧ phX n b m h s p ≠ 2 := by
  rcases six hp with rfl | rfl | rfl | rfl | rfl | rfl
  · rw [phX0]; rw [caX0] at hc
    unfold ph0; unfold ca0 at hc
    by_cases h0 : cW n b m h s = 0
    · have e1 : (cW n b m h s == 0) = true := by simpa using h0
      have e2 : (cW n b m h s != 0) = false := by simpa using h0
      rw [e1, e2, h0] at hc
      rw [e2]
      cases hw : wcB h with
      | true => exact four12
      | false => rw [hw] at hc; exact absurd rfl hc
    · have e2 : (cW n b m h s != 0) = true := by simpa using h0
      rw [e2]; exact four12
  · rw [phX1]; rw [caX1] at hc
    unfold ph1; unfold ca1 at hc
    cases ht : t1B n b m h s with
    | true => exact three12
    | false =>
      rw [ht] at hc
      have h0 : cW n b m h s = 0 := by
        unfold t1B at ht
        by_cases h0 : cW n b m h s = 0
        · exact h0
        · have e2 : (cW n b m h s != 0) = true := by simpa using h0
          rw [e2] at ht; cases ht
      rw [h0] at hc
      cases hl : lkB n s with
      | true => rw [hl] at hc; exact absurd rfl hc
      | false =>
        rw [hl] at hc
        cases hq : prB n m with
        | true => exact ⟨by decide, by decide⟩
        | false => rw [hq] at hc; exact absurd rfl hc
  · rw [phX2]; rw [caX2] at hc
    unfold ph2 t2B
    have e2 : (ca2 n b m h s != 0) = true := by simpa using hc
    rw [e2]; exact three12
  · rw [phX3]
    unfold ph3
    cases loB n m <;> cases ccB n b h s <;> cases (ca3 n b m h s != 0) <;> exact ⟨by decide, by decide⟩
  · rw [phX4]
    unfold ph4
    cases fiB n b m h s <;> cases rsB n b m h s <;> exact ⟨by decide, by decide⟩
  · rw [phX5]; exact ⟨by decide, by decide⟩
theorem dr_off {X : Int} (h : X ≠ 1 ∧ X ≠ 2) : dr0 X = false ∧ dr1 X = false ∧ dr2 X = false := by
  have e1 : (X == 1) = false := by simpa using h.1
  have e2 : (X == 2) = false := by simpa using h.2
  unfold dr0 dr1 dr2
  rw [e1, e2]
  exact ⟨rfl, rfl, rfl⟩
/-- Where there is a cause, nothing is driven. -/
theorem ac_off {p : Int} (hp : 0 ≤ p ∧ p < 6) (hE : eS s = false) (hc : nwI 1 p n b m h s ≠ 0) : acB 0 p n b m h s = false ∧ acB 1 p n b m h s = false ∧ acB 2 p n b m h s = false := by
  rw [nwI1 n b m h s hp hE] at hc
  have h1 := acts_at n b m h s hp
  unfold actX at h1
  rw [hE] at h1
  simp only [Prod.mk.injEq, cond_false] at h1
  obtain ⟨a0, a1, a2, -⟩ := h1
  obtain ⟨d0, d1, d2⟩ := dr_off (phX_off n b m h s hp hc)
  exact ⟨a0.trans d0, a1.trans d1, a2.trans d2⟩
/-- A crash, or water: there is a cause. -/
theorem crash_cause {p : Int} (hp : 0 ≤ p ∧ p < 6) (hE : eS s = false) (hc : 2 ≤ cn3 h 18 ∨ 2 ≤ cn3 h 21) : nwI 1 p n b m h s ≠ 0 := by
  rw [nwI1 n b m h s hp hE]
  exact caX_ne n b m h s hp (cW_crash n b m h s hc) (rsB_crash n b m h s hc)
end
theorem cn3_two {h : Nat → Bool} {o : Nat} (hc : (h o = true ∧ h (o + 1) = true) ∨ (h o = true ∧ h (o + 2) = true) ∨ (h (o + 1) = true ∧ h (o + 2) = true)) : 2 ≤ cn3 h o := by
  unfold cn3
  rcases hc with ⟨h1, h2⟩ | ⟨h1, h2⟩ | ⟨h1, h2⟩
  · rw [h1, h2]; cases h (o + 2) <;> decide
  · rw [h1, h2]; cases h (o + 1) <;> decide
  · rw [h1, h2]; cases h o <;> decide
end Go.Proofs.Ytgiinciclnekjaa

/-
  A plant's steps: the ring hands out what was driven a lag ago.
-/
set_option linter.unusedSimpArgs false
set_option linter.unusedVariables false
namespace Go.Proofs.Ytgiinciclnekjaa
open Sx Go.RowKit
theorem bOf_at {cs : List Cv} {j : Nat} {v l : Bool} (h : cs[j]? = some (.b v l)) : bOf cs j = v := by unfold bOf; rw [h]
theorem nOf_at {cs : List Cv} {j : Nat} {k : IntKind} {v : Int} {l : Bool} (h : cs[j]? = some (.i k v l)) : nOf cs j = v := by unfold nOf; rw [h]
section
variable (K A : Nat) (B : Bool) (n : Nat → Int) (lag : Int) (f : Nat → Value)
/-- Lists of their lengths. -/
theorem pN_hd (k : Nat) : (pN K A B n lag f k).hd.length = 64 ∧ (pN K A B n lag f k).sh.length = 3 := by
  cases k with
  | zero => exact ⟨by simp [pN, pS0], rfl⟩
  | succ k => exact ⟨by simp [pN, pS], by simp [pN, pS]⟩
theorem hdP_hd {s : PS} (h1 : s.hd.length = 64) {o : Nat} (ho : o < 64) : bOf (hdP K A lag s) (1 + o) = s.hd.getD o false := by
  have e : (hdP K A lag s)[1 + o]? = some (.b (s.hd.getD o false) false) := by
    unfold hdP
    rw [Nat.add_comm 1 o, List.getElem?_cons_succ, List.getElem?_append_left (by simpa [h1] using ho), List.getElem?_map]
    rw [List.getD_eq_getElem?_getD, List.getElem?_eq_getElem (by omega)]
    rfl
  exact bOf_at e
theorem hdP_tl {s : PS} (h1 : s.hd.length = 64) (j : Nat) : (hdP K A lag s)[65 + j]? = (Cv.i .i64 s.at_ false :: .i .i64 lag false :: ((List.range 3).map (fun i => Cv.b (weB K A i) true) ++ ((List.range 3).map (fun i => Cv.b (skB K A i) true) ++ (s.sh.map (fun b => Cv.b b false) ++ ((List.range 3).map (fun i => Cv.b (muB K A i) true) ++ (List.range 3).map (fun i => Cv.b (liB K A i) true))))))[j]? := by
  unfold hdP
  rw [show 65 + j = (64 + j) + 1 by omega, List.getElem?_cons_succ, List.getElem?_append_right (by simp [h1])]
  simp [h1]
theorem hdP_we {s : PS} (h1 : s.hd.length = 64) {i : Nat} (hi : i < 3) : bOf (hdP K A lag s) (67 + i) = weB K A i := by
  have e : (hdP K A lag s)[67 + i]? = some (.b (weB K A i) true) := by
    rw [show 67 + i = 65 + (2 + i) by omega, hdP_tl K A lag h1]
    match i, hi with
    | 0, _ => rfl
    | 1, _ => rfl
    | 2, _ => rfl
  exact bOf_at e
theorem hdP_sk {s : PS} (h1 : s.hd.length = 64) {i : Nat} (hi : i < 3) : bOf (hdP K A lag s) (70 + i) = skB K A i := by
  have e : (hdP K A lag s)[70 + i]? = some (.b (skB K A i) true) := by
    rw [show 70 + i = 65 + (5 + i) by omega, hdP_tl K A lag h1]
    match i, hi with
    | 0, _ => rfl
    | 1, _ => rfl
    | 2, _ => rfl
  exact bOf_at e
theorem hdP_sh {s : PS} (h1 : s.hd.length = 64) (h2 : s.sh.length = 3) {i : Nat} (hi : i < 3) : bOf (hdP K A lag s) (73 + i) = s.sh.getD i false := by
  have e : (hdP K A lag s)[73 + i]? = some (.b (s.sh.getD i false) false) := by
    rw [show 73 + i = 65 + (8 + i) by omega, hdP_tl K A lag h1]
    match s.sh, h2 with
    | [a, b, c], _ =>
      match i, hi with
      | 0, _ => rfl
      | 1, _ => rfl
      | 2, _ => rfl
  exact bOf_at e
/-- What is driven in step k. -/
noncomputable def drv (k j : Nat) : Bool := pA K A B n f (pN K A B n lag f k) j
noncomputable def rng (k o : Nat) : Bool := (pN K A B n lag f k).hd.getD (1 + o) false
noncomputable def shu (k i : Nat) : Bool := (pN K A B n lag f k).sh.getD i false
noncomputable def fir (k : Nat) : Bool := (pN K A B n lag f k).hd.getD 0 false
theorem drv_sym {k j : Nat} (hj : j < 4) : bOf (symL (pA K A B n f (pN K A B n lag f k)) (fun _ => 0) 0 ls4) j = drv K A B n lag f k j := by
  unfold drv
  match j, hj with
  | 0, _ => rfl
  | 1, _ => rfl
  | 2, _ => rfl
  | 3, _ => rfl
theorem getD_range {g : Nat → Bool} {N i : Nat} (hi : i < N) : ((List.range N).map g).getD i false = g i := by
  rw [List.getD_eq_getElem?_getD, List.getElem?_map, List.getElem?_range hi]; rfl
/-- The ring behind a step. -/
theorem rng_next {k o : Nat} (ho : o < 63) : rng K A B n lag f (k + 1) o = bif decide (((o / 3 : Nat) : Int) = (pN K A B n lag f k).at_) then drv K A B n lag f k (o % 3) else rng K A B n lag f k o := by
  have e : rng K A B n lag f (k + 1) o = pP K A B n lag f (pN K A B n lag f k) (1 + (1 + o)) := by
    unfold rng
    show ((List.range 64).map fun j => pP K A B n lag f (pN K A B n lag f k) (1 + j)).getD (1 + o) false = _
    rw [getD_range (by omega)]
  rw [e]
  unfold pP mvB
  have b1 : Nat.beq (1 + (1 + o)) 1 = false := beq_ff.2 (by omega)
  have b2 : Nat.ble (1 + (1 + o)) 64 = true := Nat.ble_eq_true_of_le (by omega)
  rw [b1, b2]
  simp only [cond_false, cond_true]
  rw [show 1 + (1 + o) - 2 = o by omega]
  unfold rgN
  rw [drv_sym K A B n lag f (by omega), show 2 + o = 1 + (1 + o) by omega, hdP_hd K A lag (pN_hd K A B n lag f k).1 (by omega)]
  rfl
theorem fir_next (k : Nat) : fir K A B n lag f (k + 1) = bif fir K A B n lag f k then true else drv K A B n lag f k 3 := by
  have e : fir K A B n lag f (k + 1) = pP K A B n lag f (pN K A B n lag f k) 1 := by
    unfold fir
    show ((List.range 64).map fun j => pP K A B n lag f (pN K A B n lag f k) (1 + j)).getD 0 false = _
    rw [getD_range (by omega)]
  rw [e]
  unfold pP mvB
  simp only [Nat.beq_refl, cond_true]
  rw [drv_sym K A B n lag f (by omega), show (1 : Nat) = 1 + 0 from rfl, hdP_hd K A lag (pN_hd K A B n lag f k).1 (by omega)]
  rfl
/-- What comes out of the ring in step k. -/
noncomputable def old (k j : Nat) : Bool := bif decide ((((3 * (atN lag (pN K A B n lag f k).at_).toNat + j) / 3 : Nat) : Int) = (pN K A B n lag f k).at_) then drv K A B n lag f k ((3 * (atN lag (pN K A B n lag f k).at_).toNat + j) % 3) else rng K A B n lag f k (3 * (atN lag (pN K A B n lag f k).at_).toNat + j)
theorem shu_next {k i : Nat} (hl : 0 ≤ lag ∧ lag ≤ 7) (hi : i < 3) : shu K A B n lag f (k + 1) i = bif !skB K A i then (bif old K A B n lag f k i then true else bif weB K A i then shu K A B n lag f k i else false) else false := by
  have e : shu K A B n lag f (k + 1) i = pP K A B n lag f (pN K A B n lag f k) (73 + i) := by
    unfold shu
    show ((List.range 3).map fun j => pP K A B n lag f (pN K A B n lag f k) (73 + j)).getD i false = _
    rw [getD_range hi]
  have hat := atN_in hl.1 (pN_at K A B n lag f hl.1 k)
  rw [e]
  unfold pP mvB
  have b1 : Nat.beq (73 + i) 1 = false := beq_ff.2 (by omega)
  have b2 : Nat.ble (73 + i) 64 = false := by cases hb : Nat.ble (73 + i) 64 with
    | false => rfl
    | true => have := Nat.le_of_ble_eq_true hb; omega
  have b3 : Nat.ble (73 + i) 72 = false := by cases hb : Nat.ble (73 + i) 72 with
    | false => rfl
    | true => have := Nat.le_of_ble_eq_true hb; omega
  have b4 : Nat.ble (73 + i) 75 = true := Nat.ble_eq_true_of_le (by omega)
  rw [b1, b2, b3, b4]
  simp only [cond_false, cond_true]
  rw [show 73 + i - 73 = i by omega]
  have h64 := (pN_hd K A B n lag f k).1
  have h3 := (pN_hd K A B n lag f k).2
  unfold shN olN rgN
  rw [hdP_sk K A lag h64 hi, hdP_we K A lag h64 hi, hdP_sh K A lag h64 h3 hi, drv_sym K A B n lag f (by omega)]
  have hb : 3 * (atN lag (pN K A B n lag f k).at_).toNat + i < 63 := by omega
  rw [show 2 + (3 * (atN lag (pN K A B n lag f k).at_).toNat + i) = 1 + (1 + (3 * (atN lag (pN K A B n lag f k).at_).toNat + i)) by omega, hdP_hd K A lag h64 (by omega)]
  rfl
/-- Where the ring stands. -/
theorem pN_place (L : Nat) (hL : lag = L) (k : Nat) : (pN K A B n lag f k).at_ = ((k % (L + 1) : Nat) : Int) := by
  induction k with
  | zero => show (0 : Int) = _; simp
  | succ k ih =>
    show atN lag (pN K A B n lag f k).at_ = _
    rw [ih, hL]
    unfold atN
    rw [show ((k % (L + 1) : Nat) : Int) + 1 = ((k % (L + 1) + 1 : Nat) : Int) by omega, show (L : Int) + 1 = ((L + 1 : Nat) : Int) by omega]
    show ((((k % (L + 1) + 1) % (L + 1) : Nat)) : Int) = _
    congr 1
    rw [Nat.add_mod k 1 (L + 1)]
    by_cases h0 : L = 0
    · subst h0; simp [Nat.mod_one]
    · rw [Nat.mod_eq_of_lt (show 1 < L + 1 by omega)]
/-- The ring holds what has been driven. -/
theorem ring_hist (L : Nat) (hL : lag = L) (hL5 : L ≤ 7) : ∀ k r, r < k → k - r ≤ L → ∀ j, j < 3 → rng K A B n lag f k (3 * (r % (L + 1)) + j) = drv K A B n lag f r j := by
  intro k
  induction k with
  | zero => intro r hr; omega
  | succ k ih =>
    intro r hr hk j hj
    have hm : r % (L + 1) < L + 1 := Nat.mod_lt _ (by omega)
    rw [rng_next K A B n lag f (by omega), pN_place K A B n lag f L hL]
    have hd : (3 * (r % (L + 1)) + j) / 3 = r % (L + 1) := by omega
    have hmm : (3 * (r % (L + 1)) + j) % 3 = j := by omega
    rw [hd, hmm]
    rcases Nat.eq_or_lt_of_le (Nat.le_of_lt_succ hr) with h | h
    · subst h
      rw [decide_eq_true rfl]; rfl
    · have hne : r % (L + 1) ≠ k % (L + 1) := by
        intro e
        have := Nat.sub_mod_eq_zero_of_mod_eq e.symm
        have h2 := Nat.mod_eq_of_lt (show k - r < L + 1 by omega)
        omega
      rw [decide_eq_false (by omega)]
      exact ih r h (by omega) j hj
/-- A lag later it comes out. -/
theorem old_lag (L : Nat) (hL : lag = L) (hL5 : L ≤ 7) {k : Nat} (hk : L ≤ k) {j : Nat} (hj : j < 3) : old K A B n lag f k j = drv K A B n lag f (k - L) j := by
  have e1 : atN lag (pN K A B n lag f k).at_ = (((k + 1) % (L + 1) : Nat) : Int) := pN_place K A B n lag f L hL (k + 1)
  unfold old
  rw [e1, pN_place K A B n lag f L hL]
  show (bif decide ((((3 * ((k + 1) % (L + 1)) + j) / 3 : Nat) : Int) = ((k % (L + 1) : Nat) : Int)) then drv K A B n lag f k ((3 * ((k + 1) % (L + 1)) + j) % 3) else rng K A B n lag f k (3 * ((k + 1) % (L + 1)) + j)) = _
  have hd : (3 * ((k + 1) % (L + 1)) + j) / 3 = (k + 1) % (L + 1) := by omega
  have hmm : (3 * ((k + 1) % (L + 1)) + j) % 3 = j := by omega
  rw [hd, hmm]
  by_cases h0 : L = 0
  · subst h0
    rw [decide_eq_true (by simp [Nat.mod_one])]; rfl
  · have hs : (k + 1) % (L + 1) = (k - L) % (L + 1) := by
      rw [show k + 1 = (k - L) + (L + 1) by omega, Nat.add_mod_right]
    have hne : (k + 1) % (L + 1) ≠ k % (L + 1) := by
      intro e
      have h1 := Nat.sub_mod_eq_zero_of_mod_eq e
      have h2 := Nat.mod_eq_of_lt (show k + 1 - k < L + 1 by omega)
      omega
    rw [decide_eq_false (by omega), hs]
    exact ring_hist K A B n lag f L hL hL5 k (k - L) (by omega) (by omega) j hj
theorem pQ_shu (k : Nat) : pQ K A B n lag f (pN K A B n lag f k) = bif fir K A B n lag f (k + 1) then false else bif shu K A B n lag f (k + 1) 1 then (bif shu K A B n lag f (k + 1) 0 then true else shu K A B n lag f (k + 1) 2) else false := by rfl
/-- Where nothing was driven a lag ago, the path is open. -/
theorem path_open (L : Nat) (hL : lag = L) (hL5 : L ≤ 7) (hK : K ≤ 6) {k : Nat} (hk : L ≤ k) (hd : ∀ j, j < 3 → drv K A B n lag f (k - L) j = false) : pQ K A B n lag f (pN K A B n lag f k) = false := by
  have hsh : ∀ i, i < 3 → shu K A B n lag f (k + 1) i = true → K = 3 ∧ A = i := by
    intro i hi h
    rw [shu_next K A B n lag f ⟨by omega, by omega⟩ hi, old_lag K A B n lag f L hL hL5 hk hi, hd i hi] at h
    have hw : weB K A i = true := by
      cases hw : weB K A i with
      | true => rfl
      | false => rw [hw] at h; cases hs : skB K A i <;> rw [hs] at h <;> cases h
    unfold weB at hw
    simp only [Bool.or_eq_true, Bool.and_eq_true, beq_iff'] at hw
    rcases hw with hw | hw
    · exact hw
    · omega
  rw [pQ_shu]
  cases fir K A B n lag f (k + 1) with
  | true => rfl
  | false =>
    cases h1 : shu K A B n lag f (k + 1) 1 with
    | false => rfl
    | true =>
      have e1 := hsh 1 (by omega) h1
      cases h0 : shu K A B n lag f (k + 1) 0 with
      | true => have e0 := hsh 0 (by omega) h0; omega
      | false =>
        cases h2 : shu K A B n lag f (k + 1) 2 with
        | true => have e2 := hsh 2 (by omega) h2; omega
        | false => rfl
end
end Go.Proofs.Ytgiinciclnekjaa
