/-
  A loop whose first round begins with fewer places.
-/
import Derived.Test.YtgiinciclnekjaaG5Welds
import Derived.Test.YtgiinciclnekjaaG41Welds
set_option linter.unusedSimpArgs false
set_option linter.unusedVariables false
namespace Go.Proofs.Ytgiinciclnekjaa
namespace Sx
open Go.RowKit

section
variable {P : Program} {tb : Tb}
theorem keep_from {d : List FamP} {σ I y : St} (hIk : ∀ l z, look σ l = some z → ¬ inF d l → look I l = some z) (hx : Ext I y) (ok : (newL I y).all (okWf d σ) = true) : KeepsF d σ y := by
  intro l z hz hd _
  obtain ⟨ws, hw, hl⟩ := newL_ext hx
  rw [look_apps hw, upds_fns]
  have hno : fns ws l = none ∨ fns ws l = some (some z) := by
    cases hf : fns ws l with
    | none => exact Or.inl rfl
    | some q =>
      obtain ⟨x, hx1, hx2⟩ := fns_mem hf
      have hok := List.all_eq_true.1 ok x (by rw [hl]; exact List.mem_reverse.2 hx1)
      have nT : ∀ {m}, l = .t m → domT d m = false := fun {m} e => by
        cases hc : domT d m with
        | false => rfl
        | true => exact absurd (e ▸ domT_in hc) hd
      have nC : ∀ {i o}, l = .c i o → domC d i o = false := fun {i o} e => by
        cases hc : domC d i o with
        | false => rfl
        | true => exact absurd (e ▸ domC_in hc) hd
      cases x with
      | tm n v' =>
        cases l with
        | t m =>
          obtain rfl : m = n := by simp only [Wr.fn] at hx2; split at hx2; assumption; cases hx2
          simp only [okWf, nT rfl, Bool.false_or, Option.isNone_iff_eq_none] at hok
          simp only [look, hok] at hz; cases hz
        | _ => cases hx2
      | ft n =>
        cases l with
        | t m =>
          obtain rfl : m = n := by simp only [Wr.fn] at hx2; split at hx2; assumption; cases hx2
          simp only [okWf, nT rfl, Bool.false_or, Option.isNone_iff_eq_none] at hok
          simp only [look, hok] at hz; cases hz
        | _ => cases hx2
      | cell id off v' =>
        cases l with
        | c i o =>
          obtain ⟨rfl, rfl⟩ : i = id ∧ o = off := by simp only [Wr.fn] at hx2; split at hx2; assumption; cases hx2
          simp only [okWf, nC rfl, Bool.false_or, Bool.or_eq_true, Option.isNone_iff_eq_none] at hok
          rcases hok with hok | hok
          · simp only [look, hok] at hz; cases hz
          · right
            unfold sameAt at hok
            simp only [look] at hz
            cases hb : alook σ.bk i with
            | none => rw [hb] at hz; cases hz
            | some b =>
              rw [hb] at hok hz
              simp only [Option.bind_some] at hok hz
              cases hcc : b.cell o with
              | none => rw [hcc] at hz; cases hz
              | some c =>
                rw [hcc] at hok hz
                obtain rfl := sameCv_eq hok
                simp only [Wr.fn, and_self, if_true] at hx2
                rw [← hx2, ← hz]; rfl
        | _ => cases hx2
      | new id b =>
        simp only [okWf, Option.isNone_iff_eq_none] at hok
        cases l with
        | k i =>
          obtain rfl : i = id := by simp only [Wr.fn] at hx2; split at hx2; assumption; cases hx2
          simp only [look, hok] at hz; cases hz
        | c i o =>
          obtain rfl : i = id := by simp only [Wr.fn] at hx2; split at hx2; assumption; cases hx2
          simp only [look, hok] at hz; cases hz
        | _ => cases hx2
      | nm c =>
        cases l with
        | n d' =>
          obtain rfl : d' = c := by simp only [Wr.fn] at hx2; split at hx2; assumption; cases hx2
          simp only [okWf, Bool.not_eq_true'] at hok
          simp only [look, hok] at hz; cases hz
        | _ => cases hx2
  dsimp only
  rcases hno with hno | hno
  · rw [hno, Option.getD_none, hIk l z hz hd]
  · rw [hno]; rfl


theorem inF_sub {d d' : List FamP} (h : ∀ p ∈ d, p ∈ d') {l : Loc} (hl : inF d l) : inF d' l := by
  obtain ⟨p, hp, r⟩ := hl
  exact ⟨p, h p hp, r⟩
/-- THE LOOP, from its first round on. -/
theorem loop_peel {N k : Nat} {body : Code} {rest : List Kt} (d1 d : List FamP) {σ : St} (hd : ∀ p ∈ d1, p ∈ d) (I1 I : FVal → St) (hI1 : ∀ v, σ.apps (famW v 0 d1) = some (I1 v)) (hI : ∀ v, σ.apps (famW v 0 d) = some (I v)) (ok1 : okF d1 σ σ = true)
    (inv F : FVal → Prop) (μ : FVal → Nat)
    (hfirst : ∃ y, SegOk P N (I1 (rvV d1 σ)) [.code body] .normal (.out .normal, y) ∧ Ext (I1 (rvV d1 σ)) y ∧ okF d σ y = true ∧ (newL (I1 (rvV d1 σ)) y).all (okWf d σ) = true ∧ inv (rvV d y))
    (hstep : ∀ v, inv v → ∃ o y, SegOk P N (I v) [.code body] .normal (.out o, y) ∧ Ext (I v) y ∧ okF d σ y = true ∧ (newL (I v) y).all (okWf d σ) = true ∧ ((o = .normal ∧ inv (rvV d y) ∧ μ (rvV d y) < μ v) ∨ (o = .exit k ∧ F (rvV d y)))) :
    SegTo P N σ (.again body :: .blk k :: rest) .normal (fun y => ∃ v, F v ∧ y = (.wait rest, I v)) := by
  refine ⟨fun C e a w Q hR hQ => ?_⟩
  have hws := hR.ws
  have hpin : (∀ id p, C.pin id = some p → kn (look σ) id) ∧ ∀ c m, C.pinn c = some m → knn (look σ) c := ⟨fun id p h => (hR.hp.pin.1 id p h).2, fun c m h => (hR.hp.pin.2 c m h).2⟩
  have key : ∀ n v, inv v → μ v < n → ∀ e a w, Rel C N e (look (I v)) a w → LoopFrom P body (kPost P Q (.blk k :: rest)) a w := by
    intro n
    induction n with
    | zero => intro v _ h; omega
    | succ n ih =>
      intro v hi hμ e a w hR
      obtain ⟨o, y, h1, h2, h3, h4, h5⟩ := hstep v hi
      refine LoopFrom.once (h1.run C e a w (Exit.then (LoopFrom P body (kPost P Q (.blk k :: rest))) (kPost P Q (.blk k :: rest))) hR fun e' a' w' hR' => ?_)
      have hr := fam_rel hws (keep_round (hI v) h2 h4) h3 hpin hR'
      rcases h5 with ⟨rfl, k1, k2⟩ | ⟨rfl, k1⟩
      · exact ih _ k1 (by omega) _ _ _ (by rw [look_apps (hI _)]; exact hr)
      · show (if k = k then kPost P Q rest .normal a' w' else _)
        rw [if_pos rfl]
        exact hQ _ ⟨_, k1, rfl⟩ _ _ _ (by rw [look_apps (hI _)]; exact hr)
  have hr := fam_rel hws (fun l v hv _ _ => hv) ok1 hpin hR
  obtain ⟨y, h1, h2, h3, h4, h5⟩ := hfirst
  refine LoopFrom.once (h1.run C _ a w (Exit.then (LoopFrom P body (kPost P Q (.blk k :: rest))) (kPost P Q (.blk k :: rest))) (by rw [look_apps (hI1 _)]; exact hr) fun e' a' w' hR' => ?_)
  have hr' := fam_rel hws (keep_from (I := I1 (rvV d1 σ)) (fun l z hz hn => by
    rw [look_apps (hI1 _), fam_out (fun h => hn (inF_sub hd h)), hz]) h2 h4) h3 hpin hR'
  exact key _ _ h5 (Nat.lt_succ_self _) _ _ _ (by rw [look_apps (hI _)]; exact hr')
end
end Sx
end Go.Proofs.Ytgiinciclnekjaa

/-
  Play in plain numbers: a machine and a plant, step by step.
-/
set_option linter.unusedSimpArgs false
set_option linter.unusedVariables false
namespace Go.Proofs.Ytgiinciclnekjaa
open Sx Go.RowKit
/-- What is so ahead of a step: which one, the phase, the machine's cells behind it, fired and the ring, the place, shut. -/
structure PS where
  i : Int
  p : Int
  cs : List Cv
  hd : List Bool
  at_ : Int
  sh : List Bool
def psOf (v : FVal) : PS := ⟨v.i 0, v.i 1, csM v, (List.range 64).map fun j => v.b (22 + j), v.i 86, (List.range 3).map fun j => v.b (87 + j)⟩
def hdP (K A : Nat) (lag : Int) (s : PS) : List Cv := .b true true :: (s.hd.map (fun b => Cv.b b false) ++ (.i .i64 s.at_ false :: .i .i64 lag false :: ((List.range 3).map (fun i => Cv.b (weB K A i) true) ++ ((List.range 3).map (fun i => Cv.b (skB K A i) true) ++ (s.sh.map (fun b => Cv.b b false) ++ ((List.range 3).map (fun i => Cv.b (muB K A i) true) ++ (List.range 3).map (fun i => Cv.b (liB K A i) true)))))))
section
variable (K A : Nat) (B : Bool) (n : Nat → Int) (lag : Int) (f : Nat → Value) (s : PS)
def sgP : List Cv := sgX K A B (trB f (s.i.toNat * 31)) (trI f (s.i.toNat * 31)) (fun i => s.sh.getD i false)
noncomputable def pI (j : Nat) : Int := nwI j s.p (nOf (gsL n)) (bOf s.cs) (nOf s.cs) (bOf (sgP K A B f s)) (nOf (sgP K A B f s))
noncomputable def pB (j : Nat) : Bool := nwB j s.p (nOf (gsL n)) (bOf s.cs) (nOf s.cs) (bOf (sgP K A B f s)) (nOf (sgP K A B f s))
noncomputable def pA (j : Nat) : Bool := acB j s.p (nOf (gsL n)) (bOf s.cs) (nOf s.cs) (bOf (sgP K A B f s)) (nOf (sgP K A B f s))
noncomputable def pP (j : Nat) : Bool := mvB (bOf (hdP K A lag s)) (bOf (symL (pA K A B n f s) (fun _ => 0) 0 ls4)) lag s.at_ j
noncomputable def pQ : Bool := bif pP K A B n lag f s 1 then false else bif pP K A B n lag f s 74 then (bif pP K A B n lag f s 73 then true else pP K A B n lag f s 75) else false
noncomputable def pM : List Value := [.int .i64 (pI K A B n f s 0), .int .i64 (pI K A B n f s 1), .bool (pA K A B n f s 0), .bool (pA K A B n f s 1), .bool (pA K A B n f s 2), .bool (pA K A B n f s 3), .bool (pP K A B n lag f s 73), .bool (pP K A B n lag f s 74), .bool (pP K A B n lag f s 75), .bool (pQ K A B n lag f s)]
/-- A step. -/
noncomputable def pS : PS := ⟨s.i + 1, pI K A B n f s 0, symL (fun j => pB K A B n f s (j - 1)) (fun j => pI K A B n f s (j - 1)) 2 lsM, (List.range 64).map fun j => pP K A B n lag f s (1 + j), atN lag s.at_, (List.range 3).map fun j => pP K A B n lag f s (73 + j)⟩
end
/-- At first. -/
def pS0 : PS := ⟨0, 0, symL (fun _ => false) (fun _ => 0) 2 lsM, (List.range 64).map fun _ => false, 0, [false, false, false]⟩
noncomputable def pN (K A : Nat) (B : Bool) (n : Nat → Int) (lag : Int) (f : Nat → Value) : Nat → PS
  | 0 => pS0
  | k + 1 => pS K A B n lag f (pN K A B n lag f k)
/-- The rows' cells: ten for each moment. -/
noncomputable def pF (K A : Nat) (B : Bool) (n : Nat → Int) (lag : Int) (f : Nat → Value) (o : Nat) : Value := ((pM K A B n lag f (pN K A B n lag f (o / 10)))[o % 10]?).getD undef
section
variable (K A : Nat) (B : Bool) (n : Nat → Int) (lag : Int) (f : Nat → Value) (v : FVal)
theorem hd_ps : hdX K A lag v = hdP K A lag (psOf v) := by
  unfold hdX hdP psOf
  simp only [List.map_map]
  rfl
theorem sg_ps : sgY K A B f v = sgP K A B f (psOf v) := by
  unfold sgY sgP psOf
  rw [Nat.zero_add]
  rfl
theorem yI_ps (j : Nat) : yI K A B n f v j = pI K A B n f (psOf v) j := by unfold yI pI; rw [sg_ps]; rfl
theorem yB_ps (j : Nat) : yB K A B n f v j = pB K A B n f (psOf v) j := by unfold yB pB; rw [sg_ps]; rfl
theorem yA_ps : yA K A B n f v = pA K A B n f (psOf v) := by funext j; unfold yA pA; rw [sg_ps]; rfl
theorem yP_ps (j : Nat) : yP K A B n lag f v j = pP K A B n lag f (psOf v) j := by
  unfold yP pP yD
  rw [hd_ps, yA_ps]
  rfl
theorem yM_ps : yM K A B n lag f v = pM K A B n lag f (psOf v) := by
  unfold yM pM yQ pQ
  simp only [yI_ps, yP_ps, yA_ps]
end
theorem csM_eq {v : FVal} {g : Nat → Bool} {h : Nat → Int} (hi : ∀ j ∈ intJ, v.i j = h j) (hb : ∀ j ∈ booJ, v.b j = g j) : csM v = symL g h 2 lsM := by
  have e : csM v = [Cv.i .i64 (v.i 2) false, Cv.b (v.b 3) false, Cv.b (v.b 4) false, Cv.b (v.b 5) false, Cv.i .i64 (v.i 6) false, Cv.i .i64 (v.i 7) false, Cv.i .i64 (v.i 8) false, Cv.i .i64 (v.i 9) false, Cv.i .i64 (v.i 10) false, Cv.i .i64 (v.i 11) false, Cv.i .i64 (v.i 12) false, Cv.i .i64 (v.i 13) false, Cv.i .i64 (v.i 14) false, Cv.i .i64 (v.i 15) false, Cv.i .i64 (v.i 16) false, Cv.i .i64 (v.i 17) false, Cv.b (v.b 18) false, Cv.b (v.b 19) false, Cv.b (v.b 20) false, Cv.b (v.b 21) false] := rfl
  rw [e, hi 2 (by decide), hb 3 (by decide), hb 4 (by decide), hb 5 (by decide), hi 6 (by decide), hi 7 (by decide), hi 8 (by decide), hi 9 (by decide), hi 10 (by decide), hi 11 (by decide), hi 12 (by decide), hi 13 (by decide), hi 14 (by decide), hi 15 (by decide), hi 16 (by decide), hi 17 (by decide), hb 18 (by decide), hb 19 (by decide), hb 20 (by decide), hb 21 (by decide)]
  rfl
/-- What is read behind a round: the next state. -/
theorem ps_next {K A : Nat} {B : Bool} {n : Nat → Int} {lag : Int} {f : Nat → Value} {v u : FVal} (h0 : u.i 0 = v.i 0 + 1) (hi : intJ.map u.i = intJ.map fun j => yI K A B n f v (j - 1)) (hb : booJ.map u.b = booJ.map fun j => yB K A B n f v (j - 1))
    (hr : (List.range 64).map (fun j => u.b (22 + j)) = (List.range 64).map fun j => yP K A B n lag f v (1 + j)) (ha : u.i 86 = atN lag (v.i 86)) (hs : (List.range 3).map (fun j => u.b (87 + j)) = (List.range 3).map fun j => yP K A B n lag f v (73 + j)) :
    psOf u = pS K A B n lag f (psOf v) := by
  have hi' := List.map_eq_map_iff.1 hi
  have hb' := List.map_eq_map_iff.1 hb
  have e1 : u.i 1 = pI K A B n f (psOf v) 0 := by rw [hi' 1 (by decide), yI_ps]
  have e2 : csM u = symL (fun j => pB K A B n f (psOf v) (j - 1)) (fun j => pI K A B n f (psOf v) (j - 1)) 2 lsM := csM_eq (fun j hj => by rw [hi' j hj, yI_ps]) (fun j hj => by rw [hb' j hj, yB_ps])
  unfold pS
  show PS.mk (u.i 0) (u.i 1) (csM u) ((List.range 64).map fun j => u.b (22 + j)) (u.i 86) ((List.range 3).map fun j => u.b (87 + j)) = _
  rw [h0, e1, e2, hr, ha, hs]
  simp only [yP_ps]
  rfl
end Go.Proofs.Ytgiinciclnekjaa

/-
  Play: its loop, from what has been checked.
-/
set_option linter.unusedSimpArgs false
set_option linter.unusedVariables false
namespace Go.Proofs.Ytgiinciclnekjaa
open Sx Go.RowKit
theorem caQ_seg {N cf fuel : Nat} {stops : List Nat} {k : List Kt} {o : Out} {σ : St} {y : SLeaf} {T : Tree SLeaf} (hE : T = evS tbl wr5 caQ N cf stops fuel k o σ) (hA : AtG T y) : SegOk Try.prog N σ k o y := (seg_evS tbl_ok tbl_any caQ_ok hE hA).1
section
variable (K A : Nat) (B : Bool) (n : Nat → Int) (lag : Int) (len : Nat) (cap : Nat × Nat) (f : Nat → Value)
theorem pyT_eq : pyT K A B n lag len cap f = evS tbl wr5 caQ plF.ntmps 300 [0] 300 [.code plCode] .normal (pyE K A B n lag len cap f) := by unfold pyT; rfl
theorem pyX_eq (v : FVal) : pyX K A B n lag len cap f v = evS tbl wr5 caQ plF.ntmps 300 [0] 300 (pyK K A B n lag len cap f) .normal (pyI K A B n lag len cap f v) := by unfold pyX; rfl
theorem pyR_eq (v : FVal) : pyR K A B n lag len cap f v = evC tbl wr5 caQ plF.ntmps [] 300 (pyS K A B n lag len cap f).body (pyI K A B n lag len cap f v) := by unfold pyR; rfl
theorem pyR1_eq (v : FVal) : pyR1 K A B n lag len cap f v = evC tbl wr5 caQ plF.ntmps [] 300 (pyS K A B n lag len cap f).body (pyI1 K A B n lag len cap f v) := by unfold pyR1; rfl
theorem pN_i (k : Nat) : (pN K A B n lag f k).i = k := by
  induction k with
  | zero => rfl
  | succ k ih =>
    show (pN K A B n lag f k).i + 1 = _
    rw [ih]; omega
theorem pN_p (k : Nat) : 0 ≤ (pN K A B n lag f k).p ∧ (pN K A B n lag f k).p < 6 := by
  induction k with
  | zero => show (0 : Int) ≤ 0 ∧ (0 : Int) < 6; decide
  | succ k ih =>
    show 0 ≤ pI K A B n f (pN K A B n lag f k) 0 ∧ pI K A B n f (pN K A B n lag f k) 0 < 6
    unfold pI
    rw [nwI0 _ _ _ _ _ ih]
    exact phN_six _ _ _ _ _ ih
theorem atN_in {l a : Int} (hl : 0 ≤ l) (h : 0 ≤ a ∧ a ≤ l) : 0 ≤ atN l a ∧ atN l a ≤ l := by
  unfold atN
  have h1 := Int.tmod_nonneg (l + 1) (show 0 ≤ a + 1 by omega)
  have h2 := Int.tmod_lt_of_pos (a + 1) (show 0 < l + 1 by omega)
  omega
theorem pN_at (hl : 0 ≤ lag) (k : Nat) : 0 ≤ (pN K A B n lag f k).at_ ∧ (pN K A B n lag f k).at_ ≤ lag := by
  induction k with
  | zero => exact ⟨Int.le_refl _, hl⟩
  | succ k ih => exact atN_in hl ih
def PyEnd (y : SLeaf) : Prop := (y.1 = .out .normal ∨ y.1 = .out .ret) ∧ (∃ v, evRes tbl y.2 plF.results.toList = some v) ∧
  ∃ (id c : Nat) (t : TypeId) (cp : Option (Nat × Nat)) (g : Nat → Value), evRes tbl y.2 plF.results.toList = some (.tup [(false, [.slc id (.lit 0) (.opq len) (.nam c)]), (false, [.i .i64 0 true])]) ∧ alook y.2.bk id = some (.oq t false (len * 10) g cp) ∧ ∀ o, o < len * 10 → g o = pF K A B n lag f o
end
theorem resR_at {fn : Func} {x : SLeaf} {m k : Nat} {g : Nat → Value} (h : resR fn x = some (m, k, g)) : (x.1 = .out .normal ∨ x.1 = .out .ret) ∧ ∃ (id c : Nat) (t : TypeId) (cp : Option (Nat × Nat)), evRes tbl x.2 fn.results.toList = some (.tup [(false, [.slc id (.lit 0) (.opq m) (.nam c)]), (false, [.i .i64 0 true])]) ∧ alook x.2.bk id = some (.oq t false k g cp) := by
  unfold resR at h
  split at h
  · rename_i ho
    split at h
    · rename_i id m' c hv
      split at h
      · rename_i t k' g' cp hb
        simp only [Option.some.injEq, Prod.mk.injEq] at h
        obtain ⟨rfl, rfl, rfl⟩ := h
        exact ⟨Or.inr ho, id, c, t, cp, hv, hb⟩
      · cases h
    · cases h
  · cases h
theorem rd_ints (y : St) : rdInts y = intJ.map (rvV pyD y).i := rfl
theorem rd_bools (y : St) : rdBools y = booJ.map (rvV pyD y).b := rfl
theorem rd_ring (y : St) : rdRing y = (List.range 64).map fun j => (rvV pyD y).b (22 + j) := rfl
theorem rd_shut (y : St) : rdShut y = (List.range 3).map fun j => (rvV pyD y).b (87 + j) := rfl
theorem pyD_sub : ∀ p ∈ pyD1, p ∈ pyD := fun p hp => List.mem_append_left _ hp
theorem pyD1_len : pyD1.length = 90 := by decide
theorem rv1_i (y : St) {j : Nat} (hj : j < 90) : (rvV pyD1 y).i j = rvI pyD y j := by
  show rvI pyD1 y j = rvI pyD y j
  unfold rvI pyD
  rw [List.getElem?_append_left (by rw [pyD1_len]; exact hj)]
theorem rv1_b (y : St) {j : Nat} (hj : j < 90) : (rvV pyD1 y).b j = rvB pyD y j := by
  show rvB pyD1 y j = rvB pyD y j
  unfold rvB pyD
  rw [List.getElem?_append_left (by rw [pyD1_len]; exact hj)]
/-- The first state, as it is read. -/
theorem ps_zero {y : St} (h0 : rvI pyD y 0 = 0) (hi : rdInts y = intJ.map fun _ => 0) (hb : rdBools y = booJ.map fun _ => false) (hr : rdRing y = (List.range 64).map fun _ => false) (ha : rvI pyD y 86 = 0) (hs : rdShut y = [false, false, false]) : psOf (rvV pyD1 y) = pS0 := by
  have hi' := List.map_eq_map_iff.1 hi
  have hb' := List.map_eq_map_iff.1 hb
  have e2 : csM (rvV pyD1 y) = symL (fun _ => false) (fun _ => 0) 2 lsM := csM_eq (fun j hj => by
    have hj9 : j < 90 := by simp [intJ] at hj; omega
    rw [rv1_i y hj9]; exact hi' j hj) (fun j hj => by
    have hj9 : j < 90 := by simp [booJ] at hj; omega
    rw [rv1_b y hj9]; exact hb' j hj)
  unfold psOf pS0
  rw [rv1_i y (by decide : 0 < 90), h0, rv1_i y (by decide : 1 < 90), rv1_i y (by decide : 86 < 90), ha, e2]
  have e1 : rvI pyD y 1 = 0 := hi' 1 (by decide)
  have e3 : (List.range 64).map (fun j => (rvV pyD1 y).b (22 + j)) = (List.range 64).map fun _ => false := by
    rw [← hr]
    exact List.map_congr_left fun j hj => rv1_b y (by have := List.mem_range.1 hj; omega)
  have e4 : (List.range 3).map (fun j => (rvV pyD1 y).b (87 + j)) = [false, false, false] := by
    rw [← hs]
    exact List.map_congr_left fun j hj => rv1_b y (by have := List.mem_range.1 hj; omega)
  rw [e1, e3, e4]
theorem pF_at {K A : Nat} {B : Bool} {n : Nat → Int} {lag : Int} {f : Nat → Value} {k o : Nat} (h1 : k * 10 ≤ o) (h2 : o < (k + 1) * 10) : ((pM K A B n lag f (pN K A B n lag f k))[o - k * 10]?).getD undef = pF K A B n lag f o := by
  unfold pF
  have e1 : o / 10 = k := by omega
  have e2 : o % 10 = o - k * 10 := by omega
  rw [e1, e2]
theorem cut_lt {m : Nat} {f : Nat → Value} {o : Nat} (h : o < m) : cutF m f o = f o := by
  unfold cutF
  rw [blt_iff.2 h]; rfl
theorem rv_row {d : List FamP} {y : St} {j : Nat} {r : RowV} (h : rvR d y j = some r) : (rvV d y).n j = r.n ∧ (rvV d y).m j = r.m ∧ (rvV d y).f j = cutF r.m r.f := by
  unfold rvV
  simp only [h, Option.map_some, Option.getD_some, and_self]
section
variable {K A : Nat} {B : Bool} {n : Nat → Int} {lag : Int} {len : Nat} {cap : Nat × Nat} {f : Nat → Value}
/-- What holds ahead of round k. -/
structure PyInv (K A : Nat) (B : Bool) (n : Nat → Int) (lag : Int) (len : Nat) (f : Nat → Value) (v : FVal) (k : Nat) : Prop where
  hi : v.i 0 = k
  hle : k ≤ len
  hps : psOf v = pN K A B n lag f k
  hn : v.n 90 = k
  hm : v.m 90 = k * 10
  hf : ∀ o, o < k * 10 → v.f 90 o = pF K A B n lag f o
theorem yC_ok {v : FVal} {k : Nat} (hl : 0 ≤ lag ∧ lag ≤ 7) (hi : v.i 0 = k) (hk : k < len) (hp : psOf v = pN K A B n lag f k) (hf : ∀ j, j < len → truOk f j = true) : ∀ c ∈ yC lag len f v, c = true := by
  have hok := hf k hk
  unfold truOk at hok
  rw [Bool.and_eq_true] at hok
  have p1 : v.i 1 = (pN K A B n lag f k).p := by rw [← hp]; rfl
  have p2 : v.i 86 = (pN K A B n lag f k).at_ := by rw [← hp]; rfl
  have q1 := pN_p K A B n lag f k
  have q2 := pN_at K A B n lag f hl.1 k
  intro c hc
  unfold yC at hc
  rw [p1, p2, hi, show ((k : Int)).toNat = k from rfl, Nat.zero_add] at hc
  simp only [List.mem_cons, List.not_mem_nil, or_false] at hc
  rcases hc with rfl | rfl | rfl | rfl | rfl | rfl | rfl
  · exact decide_eq_true (by omega)
  · exact decide_eq_true ⟨by omega, by omega⟩
  · refine decide_eq_true ?_
    have := Nat.mul_le_mul_right 31 (show k + 1 ≤ len from hk)
    omega
  · exact hok.1
  · exact hok.2
  · exact decide_eq_true q1
  · exact decide_eq_true ⟨hl.1, hl.2, q2.1, q2.2⟩
theorem py_seg (hL : ∀ v, pyL K A B n lag len cap f v = pyLX K A B n lag len f v) (h0 : 0 < len) (hlen : len ≤ 2000) (hchk : chkR (nOf (gsL n)) = 0) (hl : 0 ≤ lag ∧ lag ≤ 7) (hB : ∀ c ∈ dmB K B, c = true) (hf : ∀ j, j < len → truOk f j = true) :
    SegTo Try.prog plF.ntmps (pyE K A B n lag len cap f) [.code plCode] .normal (PyEnd K A B n lag len f) := by
  have hL' := hL
  unfold pyL pyLX at hL'
  simp only [Prod.mk.injEq] at hL'
  have hUp := fun v => (hL' v).1
  have hGo := fun v => (hL' v).2.1
  have hGo1 := fun v => (hL' v).2.2.1
  have hOut := fun v => (hL' v).2.2.2.1
  have hEnd := fun v => (hL' v).2.2.2.2
  clear hL hL'
  have hwrap : ∀ k : Nat, k < len → IntKind.i64.wrap ((k : Int) + 1) = (k : Int) + 1 := fun k hk => Go.IntWalk.i64_in _ ⟨by omega, by omega⟩
  -- up to the loop
  have hUp0 := hUp (rvV pyD1 (pyS K A B n lag len cap f).st)
  unfold pyUp at hUp0
  obtain ⟨cs, x, hw, hg⟩ := selW_map hUp0
  simp only [Prod.mk.injEq] at hg
  obtain ⟨k1, k2, k3, k4, -, -, k7, k8, k9, k10, k11, k12⟩ := hg
  have hat := selW_G hw (by
    rw [k1]
    intro c hc
    rcases List.mem_append.1 hc with hc | hc
    · rcases List.mem_append.1 hc with hc | hc
      · simp only [List.mem_cons, List.not_mem_nil, or_false] at hc
        rcases hc with rfl | rfl
        · rw [hchk]; rfl
        · rw [decide_eq_false (by omega), decide_eq_false (by omega)]; rfl
      · exact hB c hc
    · simp only [List.mem_cons, List.not_mem_nil, or_false] at hc
      rcases hc with rfl | rfl | rfl
      · rw [decide_eq_false (by omega)]; rfl
      · exact decide_eq_true ⟨Nat.le_refl _, Nat.le_trans hlen (by decide)⟩
      · exact List.all_eq_true.2 fun j hj => hf j (List.mem_range.1 hj))
  obtain ⟨S, hS⟩ := Option.isSome_iff_exists.1 k2
  have hSe : pyS K A B n lag len cap f = S := by unfold pyS; rw [hw]; simp only [Option.map_some, Option.bind_some, hS, Option.getD_some]
  have hx := stpOf_at hS
  rw [← hSe, k3] at hx
  have hK : (pyS K A B n lag len cap f).rest = pyK K A B n lag len cap f := by unfold pyK; rfl
  rw [hK] at hx
  refine (caQ_seg (pyT_eq K A B n lag len cap f) hat).then_ hx ?_
  refine seg_block ?_
  have fam1 : ∀ v, (pyS K A B n lag len cap f).st.apps (famW v 0 pyD1) = some (pyI1 K A B n lag len cap f v) := fun v => by
    have h1 := hUp v
    unfold pyUp at h1
    obtain ⟨cs, x, hw, hg⟩ := selW_map h1
    simp only [Prod.mk.injEq] at hg
    obtain ⟨I, hI⟩ := Option.isSome_iff_exists.1 hg.2.2.2.2.1
    unfold pyI1
    rw [hI, Option.getD_some]
  have fam : ∀ v, (pyS K A B n lag len cap f).st.apps (famW v 0 pyD) = some (pyI K A B n lag len cap f v) := fun v => by
    have h1 := hUp v
    unfold pyUp at h1
    obtain ⟨cs, x, hw, hg⟩ := selW_map h1
    simp only [Prod.mk.injEq] at hg
    obtain ⟨I, hI⟩ := Option.isSome_iff_exists.1 hg.2.2.2.2.2.1
    unfold pyI
    rw [hI, Option.getD_some]
  clear hUp hUp0
  have hz : psOf (rvV pyD1 (pyS K A B n lag len cap f).st) = pN K A B n lag f 0 := ps_zero k12 k7 k8 k9 k10 k11
  have hz0 : (rvV pyD1 (pyS K A B n lag len cap f).st).i 0 = (0 : Nat) := by rw [rv1_i _ (by decide : 0 < 90)]; exact k12
  refine SegTo.each (I := pyI K A B n lag len cap f) (F := fun v => v.n 90 = len ∧ v.m 90 = len * 10 ∧ ∀ o, o < len * 10 → v.f 90 o = pF K A B n lag f o) (loop_peel (k := 0) (rest := pyK K A B n lag len cap f) (body := (pyS K A B n lag len cap f).body) pyD1 pyD pyD_sub (pyI1 K A B n lag len cap f) (pyI K A B n lag len cap f) fam1 fam k4 (fun v => ∃ k, PyInv K A B n lag len f v k) _ (fun v => ((len : Int) - v.i 0).toNat) ?_ (fun v hv => ?_)) (fun v hv => ?_)
  · -- the first round
    have hg0 := hGo1 (rvV pyD1 (pyS K A B n lag len cap f).st)
    unfold pyGo1 at hg0
    obtain ⟨cs, y, hw, hg⟩ := wayR_map hg0
    obtain ⟨w1, w2, w3⟩ := wayR_at hw
    simp only [Option.some.injEq, Prod.mk.injEq] at hg
    obtain ⟨g1, g2, g3, g4, g5, g6, g7, g8⟩ := hg
    obtain ⟨r, hr, hr2⟩ := Option.map_eq_some_iff.1 g8
    simp only [Prod.mk.injEq] at hr2
    obtain ⟨r1, r2, r3⟩ := hr2
    obtain ⟨s1, s2⟩ := seg_evC tbl_ok tbl_any caQ_ok (pyR1_eq K A B n lag len cap f (rvV pyD1 (pyS K A B n lag len cap f).st)) (w1 (by rw [g1]; exact yC_ok hl hz0 h0 hz hf))
    have hnx : psOf (rvV pyD y) = pN K A B n lag f 1 := by
      show _ = pS K A B n lag f (pN K A B n lag f 0)
      rw [← hz]
      refine ps_next ?_ g3 g4 g5 g6 g7
      rw [hz0]
      show rvI pyD y 0 = _
      rw [g2, hz0]
      exact hwrap 0 h0
    obtain ⟨q1, q2, q3⟩ := rv_row hr
    refine ⟨y, s1, s2, w2, w3, 1, ?_, h0, hnx, by rw [q1, r1], by rw [q2, r2], fun o ho => ?_⟩
    · have : (psOf (rvV pyD y)).i = 1 := by rw [hnx, pN_i]; rfl
      exact this
    · rw [q3, r2, cut_lt (by omega)]
      have ho' : o < 10 := by omega
      have h5 : ((List.range 10).map r.f)[o]? = some (r.f o) := by rw [List.getElem?_map, List.getElem?_range ho']; rfl
      rw [r3, yM_ps, hz] at h5
      rw [← pF_at (k := 0) (by omega) (by omega), Nat.zero_mul, Nat.sub_zero, h5]
      rfl
  · obtain ⟨k, hi⟩ := hv
    by_cases hk : k < len
    · have hg0 := hGo v
      unfold pyGo at hg0
      obtain ⟨cs, y, hw, hg⟩ := wayR_map hg0
      obtain ⟨w1, w2, w3⟩ := wayR_at hw
      simp only [Option.some.injEq, Prod.mk.injEq] at hg
      obtain ⟨g1, g2, g3, g4, g5, g6, g7, g8⟩ := hg
      obtain ⟨r, hr, hr2⟩ := Option.map_eq_some_iff.1 g8
      simp only [Prod.mk.injEq] at hr2
      obtain ⟨r1, r2, r3⟩ := hr2
      obtain ⟨s1, s2⟩ := seg_evC tbl_ok tbl_any caQ_ok (pyR_eq K A B n lag len cap f v) (w1 (by
        rw [g1]
        intro c hc
        rcases List.mem_append.1 hc with hc | hc
        · exact yC_ok hl hi.hi hk hi.hps hf c hc
        · unfold yC2 at hc
          rw [hi.hn, hi.hm] at hc
          simp only [List.mem_cons, List.not_mem_nil, or_false] at hc
          rcases hc with rfl | rfl
          · exact decide_eq_true (Nat.le_refl _)
          · exact decide_eq_true ⟨by omega, by omega⟩))
      have e0 : (rvV pyD y).i 0 = v.i 0 + 1 := by
        show rvI pyD y 0 = _
        rw [g2, hi.hi]
        exact hwrap k hk
      have hnx : psOf (rvV pyD y) = pN K A B n lag f (k + 1) := by
        show _ = pS K A B n lag f (pN K A B n lag f k)
        rw [← hi.hps]
        exact ps_next e0 g3 g4 g5 g6 g7
      obtain ⟨q1, q2, q3⟩ := rv_row hr
      have hii := hi.hi
      refine ⟨.normal, y, s1, s2, w2, w3, Or.inl ⟨rfl, ⟨k + 1, by rw [e0, hii]; omega, hk, hnx, by rw [q1, r1, hi.hn], by rw [q2, r2, hi.hn], fun o ho => ?_⟩, by omega⟩⟩
      rw [q3, r2, hi.hn, cut_lt (by omega), r3, hi.hn]
      by_cases ho2 : o < k * 10
      · rw [appF_lt ho2]; exact hi.hf o ho2
      · rw [appF_ge (by omega), yM_ps, hi.hps]
        exact pF_at (by omega) ho
    · have hkl : k = len := Nat.le_antisymm hi.hle (by omega)
      have hg0 := hOut v
      unfold pyOut at hg0
      obtain ⟨cs, y, hw, hg⟩ := wayR_map hg0
      obtain ⟨w1, w2, w3⟩ := wayR_at hw
      simp only [Prod.mk.injEq] at hg
      obtain ⟨g1, g8⟩ := hg
      obtain ⟨r, hr, hr2⟩ := Option.map_eq_some_iff.1 g8
      simp only [Prod.mk.injEq] at hr2
      obtain ⟨r1, r2, r3⟩ := hr2
      obtain ⟨s1, s2⟩ := seg_evC tbl_ok tbl_any caQ_ok (pyR_eq K A B n lag len cap f v) (w1 (by
        rw [g1]
        intro c hc
        simp only [List.mem_cons, List.not_mem_nil, or_false] at hc
        have := hi.hi
        rw [hc, decide_eq_false (by omega)]; rfl))
      obtain ⟨q1, q2, q3⟩ := rv_row hr
      refine ⟨.exit 0, y, s1, s2, w2, w3, Or.inr ⟨rfl, by rw [q1, r1, hi.hn, hkl], by rw [q2, r2, hi.hm, hkl], fun o ho => ?_⟩⟩
      rw [q3, r2, hi.hm, r3, cut_lt (by rw [hkl]; exact ho)]
      exact hi.hf o (by rw [hkl]; exact ho)
  · obtain ⟨v1, v2, v3⟩ := hv
    have hg0 := hEnd v
    unfold pyEnd at hg0
    obtain ⟨cs, x, hw, hg⟩ := selW_map hg0
    simp only [Prod.mk.injEq] at hg
    obtain ⟨q1, q2⟩ := hg
    have hat := selW_G hw (by rw [q1]; exact all_nil)
    refine (caQ_seg (pyX_eq K A B n lag len cap f v) hat).to ?_
    obtain ⟨r1, id, c, t, cp, r2, r3⟩ := resR_at q2
    rw [v1] at r2
    rw [v2] at r3
    exact ⟨r1, ⟨_, r2⟩, id, c, t, cp, v.f 90, r2, r3, v3⟩
end
end Go.Proofs.Ytgiinciclnekjaa

/-
  A function that hands back a new row.
-/
set_option linter.unusedSimpArgs false
set_option linter.unusedVariables false
namespace Go.Proofs.Ytgiinciclnekjaa
namespace Sx
open Go.RowKit

section
variable {P : Program} {tb : Tb}
/-- A state that knows one more row, and one more number. -/
def addOw (σ : St) (t : TypeId) (m : Nat) (f : Nat → Value) : St := { σ with bk := (σ.nx, .oq t false m f none) :: σ.bk, nx := σ.nx + 1, nl := σ.nn :: σ.nl, nn := σ.nn + 1 }
theorem addOw_agree {σ : St} {e : Env} {p : Nat × Nat} {m : Nat} (h1 : alook σ.bk σ.nx = none) (h2 : memb σ.nl σ.nn = false) : Agree (look σ) e (addEnv σ e p m) := addRo_agree h1 h2
theorem addOw_sub (σ : St) (t : TypeId) (m : Nat) (f : Nat → Value) : Sub (look σ) (look (addOw σ t m f)) := by
  refine ⟨fun id hid => ?_, fun c hc => ?_⟩
  · rw [kn_look] at hid ⊢
    simp only [addOw, alook]
    split
    · rfl
    · exact hid
  · rw [knn_look] at hc ⊢
    simp only [addOw, memb]
    split
    · rfl
    · exact hc
theorem Hp.addOw {C : Ctx} {e : Env} {σ : St} {w : World} (h : Hp C e (look σ) w) (h1 : alook σ.bk σ.nx = none) (h2 : memb σ.nl σ.nn = false) {t : TypeId} {m : Nat} {f : Nat → Value} {p : Nat × Nat} {k : Nat} (hp : p.1 < w.heap.size)
    (hnew : ∀ id b, look σ (.k id) = some (.bk b) → b.live = true → (e.pl id).1 ≠ p.1) (hM : C.M p.1) (hc : ∀ j, j < m → w.cell? ⟨p.1, p.2 + j, none⟩ = some (f j) ∧ w.frozen? ⟨p.1, p.2 + j, none⟩ = false) : Hp C (addEnv σ e p k) (look (Sx.addOw σ t m f)) w := by
  have hA := addOw_agree (e := e) (p := p) (m := k) h1 h2
  have hS := addOw_sub σ t m f
  have kold : ∀ id, id ≠ σ.nx → look (Sx.addOw σ t m f) (.k id) = look σ (.k id) := fun id hid => by
    simp only [look, Sx.addOw, alook]
    rw [beq_ff.2 (Ne.symm hid)]
  have cold : ∀ id off, id ≠ σ.nx → look (Sx.addOw σ t m f) (.c id off) = look σ (.c id off) := fun id off hid => by
    simp only [look, Sx.addOw, alook]
    rw [beq_ff.2 (Ne.symm hid)]
  have knew : look (Sx.addOw σ t m f) (.k σ.nx) = some (.bk (.oq t false m f none)) := by
    simp only [look, Sx.addOw, alook, Nat.beq_refl]; rfl
  have cnew : ∀ off, look (Sx.addOw σ t m f) (.c σ.nx off) = none := fun off => by
    simp only [look, Sx.addOw, alook, Nat.beq_refl]; rfl
  have ad : ∀ id off, id ≠ σ.nx → (addEnv σ e p k).ad id off = e.ad id off := fun id off hid => by
    unfold Env.ad; show (⟨(if id = σ.nx then p else e.pl id).1, _, none⟩ : Addr) = _
    simp only [addEnv, if_neg hid]
  have pl : ∀ id, id ≠ σ.nx → (addEnv σ e p k).pl id = e.pl id := fun id hid => if_neg hid
  have pln : (addEnv σ e p k).pl σ.nx = p := if_pos rfl
  refine ⟨h.new, ?_, ?_, ?_, ?_, ?_, ?_, ?_, h.pin.mono hA hS, h.fr⟩
  · intro id off v hv
    by_cases hid : id = σ.nx
    · subst hid; rw [cnew] at hv; cases hv
    · rw [cold id off hid] at hv
      obtain ⟨q1, ⟨t', ro, n, cp, q2, q3⟩, q4⟩ := h.cl id off v hv
      refine ⟨q1.sub hS, ⟨t', ro, n, cp, by rw [kold id hid]; exact q2, q3⟩, ?_⟩
      rw [ad id off hid, Cv.den_agree hA q1]
      exact q4
  · intro id t' n cp hb off ho
    by_cases hid : id = σ.nx
    · subst hid; rw [knew] at hb; cases hb
    · rw [kold id hid] at hb
      rw [ad id off hid]
      exact h.ar id t' n cp hb off ho
  · intro id t' ro n f' cp hb off ho
    by_cases hid : id = σ.nx
    · subst hid
      rw [knew] at hb
      cases hb
      unfold Env.ad
      rw [pln]
      exact ⟨(hc off ho).1, fun _ => (hc off ho).2⟩
    · rw [kold id hid] at hb
      rw [ad id off hid]
      exact h.oq id t' ro n f' cp hb off ho
  · intro id b c es hb hcp
    by_cases hid : id = σ.nx
    · subst hid
      rw [knew] at hb
      obtain rfl : BI.oq t false m f none = b := by simpa using hb
      cases hcp
    · rw [kold id hid] at hb
      obtain ⟨q1, q2, cs', q3, q4, q5⟩ := h.cp id b c es hb hcp
      refine ⟨hS.2 c q1, by rw [pl id hid]; exact q2, cs', by rw [pl id hid]; exact q3, by rw [q4, hA.2 c q1], q5⟩
  · intro id id' b b' hb hb' hr hl hne
    by_cases hid : id = σ.nx
    · subst hid
      rw [pln]
      have hid' : id' ≠ σ.nx := Ne.symm hne
      rw [kold id' hid'] at hb'
      rw [pl id' hid']
      exact (hnew id' b' hb' hl).symm
    · rw [kold id hid] at hb
      rw [pl id hid]
      by_cases hid' : id' = σ.nx
      · subst hid'
        rw [pln]
        exact hnew id b hb (by cases b <;> first | rfl | cases hr)
      · rw [kold id' hid'] at hb'
        rw [pl id' hid']
        exact h.inj id id' b b' hb hb' hr hl hne
  · intro id b hb hl
    by_cases hid : id = σ.nx
    · subst hid; rw [pln]; exact hp
    · rw [kold id hid] at hb
      rw [pl id hid]
      exact h.lt id b hb hl
  · intro id b hb hr
    by_cases hid : id = σ.nx
    · subst hid
      rw [pln]
      exact hM
    · rw [kold id hid] at hb
      rw [pl id hid]
      exact h.mu id b hb hr
/-- A new row, and no error. -/
def NewOw (w w' : World) (n m : Nat) (f : Nat → Value) (en : Ending) : Prop := ∃ b off cap, en = .returned (.tuple #[.slice (some ⟨b, off, none⟩) n cap, .int .i64 0]) ∧ w.heap.size ≤ b ∧ b < w'.heap.size ∧ (∀ j, j < m → w'.cell? ⟨b, off + j, none⟩ = some (f j) ∧ w'.frozen? ⟨b, off + j, none⟩ = false) ∧ Below w.heap.size w w'
def owSv (σ : St) (n : Nat) : Sv := .tup [(false, [.slc σ.nx (.lit 0) (.opq n) (.nam σ.nn)]), (false, [.i .i64 0 true])]
theorem FunOk.of_rowW {f : FuncId} {args : List Sv} {σ : St} {t : TypeId} {n m : Nat} {g : Nat → Value} (h1 : alook σ.bk σ.nx = none) (h2 : memb σ.nl σ.nn = false)
    (h : ∀ (C : Ctx) (e : Env) (w : World), Hp C e (look σ) w → (∀ x ∈ args, x.sc (look σ)) → Calls P f (args.map (·.den e)).toArray w fun en w' => NewOw w w' n m g en) : FunOk P f args σ (owSv σ n) (addOw σ t m g) := by
  refine ⟨fun C e w hp ha => ?_, fun id off hk _ => ?_⟩
  case refine_2 =>
    have hne : id ≠ σ.nx := fun e => by rw [kn_look, e, h1] at hk; cases hk
    simp only [Sx.addOw, look, alook]
    rw [beq_ff.2 (Ne.symm hne)]
  refine (h C e w hp ha).mono fun en w' => ?_
  rintro ⟨b, off, cap, rfl, hlo, hhi, hcell, hb⟩
  refine ⟨addEnv σ e (b, off) cap, addOw_agree h1 h2, (hp.keep hb).addOw h1 h2 hhi (fun id bi hbi hl => ?_) (hp.new b (Nat.le_trans hp.fr.size hlo)) hcell, ?_, ?_⟩
  · have := hp.lt id bi hbi hl
    show (e.pl id).1 ≠ b
    omega
  · have e1 : (addEnv σ e (b, off) cap).pl σ.nx = (b, off) := if_pos rfl
    have e2 : (addEnv σ e (b, off) cap).nm σ.nn = cap := if_pos rfl
    have e3 : (addEnv σ e (b, off) cap).ad σ.nx 0 = ⟨b, off, none⟩ := by unfold Env.ad; rw [e1]; rfl
    show Ending.returned (.tuple #[.slice (some ⟨b, off, none⟩) n cap, .int .i64 0]) = Ending.returned (.tuple #[.slice (some ((addEnv σ e (b, off) cap).ad σ.nx 0)) n ((addEnv σ e (b, off) cap).nm σ.nn), .int .i64 0])
    rw [e2, e3]
  · intro p hp
    simp only [List.mem_cons, List.not_mem_nil, or_false] at hp
    rcases hp with rfl | rfl
    · intro c hc
      obtain rfl : c = _ := by simpa using hc
      refine ⟨?_, trivial, trivial, ?_⟩
      · unfold kn; simp only [look, Sx.addOw, alook, Nat.beq_refl]; rfl
      · show knn _ _; unfold knn; simp only [look, Sx.addOw, memb, Nat.beq_refl]; rfl
    · intro c hc
      obtain rfl : c = _ := by simpa using hc
      exact trivial

end
end Sx
end Go.Proofs.Ytgiinciclnekjaa
