/-
  The rule of a machine's step: what it leaves is named by its own evaluation.
-/
import Derived.Test.YtgiinciclnekjaaG20Dead
import Derived.Test.YtgiinciclnekjaaG21Dead
import Derived.Test.YtgiinciclnekjaaG22Dead
import Derived.Test.YtgiinciclnekjaaG23Dead
import Derived.Test.YtgiinciclnekjaaG24Dead
import Derived.Test.YtgiinciclnekjaaG25Dead
import Derived.Test.YtgiinciclnekjaaG19Dead
set_option linter.unusedSimpArgs false
set_option linter.unusedVariables false
namespace Go.Proofs.Ytgiinciclnekjaa
open Sx Go.RowKit
set_option maxRecDepth 100000

/-- The cells behind the guard; the act; the error. -/
def stC (T : Tree FLeaf) : List Cv := match peelF T with
  | some (_, (_, σ)) => match alook σ.bk 1 with
    | some (.ar _ _ (_ :: cs) _) => cs
    | _ => []
  | none => []
def stA (T : Tree FLeaf) : List Cv := match peelF T with
  | some (_, (.tup [(_, ac), _], _)) => ac
  | _ => []
def stE (T : Tree FLeaf) : Int := match peelF T with
  | some (_, (.tup [_, (_, [.i _ e _])], _)) => e
  | _ => 0
def pick6 {α : Type} (p : Int) (g : Int → α) : α :=
  bif decide (p = 5) then g 5 else bif decide (p = 4) then g 4 else bif decide (p = 3) then g 3 else bif decide (p = 2) then g 2 else bif decide (p = 1) then g 1 else g 0
noncomputable def nwI (j : Nat) (p : Int) (n : Nat → Int) (b : Nat → Bool) (m : Nat → Int) (h : Nat → Bool) (s : Nat → Int) : Int := pick6 p fun k => nOf (stC (stT k n b m h s)) j
noncomputable def nwB (j : Nat) (p : Int) (n : Nat → Int) (b : Nat → Bool) (m : Nat → Int) (h : Nat → Bool) (s : Nat → Int) : Bool := pick6 p fun k => bOf (stC (stT k n b m h s)) j
noncomputable def acB (j : Nat) (p : Int) (n : Nat → Int) (b : Nat → Bool) (m : Nat → Int) (h : Nat → Bool) (s : Nat → Int) : Bool := pick6 p fun k => bOf (stA (stT k n b m h s)) j
noncomputable def erI (p : Int) (n : Nat → Int) (b : Nat → Bool) (m : Nat → Int) (h : Nat → Bool) (s : Nat → Int) : Int := pick6 p fun k => stE (stT k n b m h s)
def ls4 : List Lf := [.b, .b, .b, .b]
/-- The phase and what stands behind it. -/
def lsP : List Lf := .i .i64 :: lsM
noncomputable def nwV (p : Int) (n : Nat → Int) (b : Nat → Bool) (m : Nat → Int) (h : Nat → Bool) (s : Nat → Int) : Sv := .tup [(true, symL (fun j => acB j p n b m h s) (fun _ => 0) 0 ls4), (false, [.i .i64 (erI p n b m h s) false])]
noncomputable def nwC (p : Int) (n : Nat → Int) (b : Nat → Bool) (m : Nat → Int) (h : Nat → Bool) (s : Nat → Int) : List Cv := symL (fun j => nwB j p n b m h s) (fun j => nwI j p n b m h s) 0 lsP
theorem st_ok (k : Nat) (hk : k < 6) (n : Nat → Int) (b : Nat → Bool) (m : Nat → Int) (h : Nat → Bool) (s : Nat → Int) : okS (stT k n b m h s) = true := by
  match k, hk with
  | 0, _ => exact st_ok0 n b m h s
  | 1, _ => exact st_ok1 n b m h s
  | 2, _ => exact st_ok2 n b m h s
  | 3, _ => exact st_ok3 n b m h s
  | 4, _ => exact st_ok4 n b m h s
  | 5, _ => exact st_ok5 n b m h s
theorem pick6_at {α : Type} {k : Nat} (hk : k < 6) (g : Int → α) : pick6 (k : Int) g = g k := by
  match k, hk with
  | 0, _ => rfl
  | 1, _ => rfl
  | 2, _ => rfl
  | 3, _ => rfl
  | 4, _ => rfl
  | 5, _ => rfl
/-- A way, under cover: nothing looks into it by itself. -/
structure AtH (T : Tree FLeaf) (y : FLeaf) : Prop where
  out : T.At y
/-- What is checked of a step says what it leaves. -/
theorem okS_at {T : Tree FLeaf} (h : okS T = true) : ∃ (ac : List Cv) (er : Int) (fl : Bool) (σ : St) (ph : Int) (fp : Bool) (cs : List Cv), AtH T (.tup [(true, ac), (false, [.i .i64 er fl])], σ) ∧ alook σ.bk 1 = some (.ar 95 false (.ptr 0 (.lit 0) :: .i .i64 ph fp :: cs) none) ∧
    isL ls4 ac = true ∧ isL lsM cs = true ∧ stC T = .i .i64 ph fp :: cs ∧ stA T = ac ∧ stE T = er := by
  unfold okS at h
  split at h
  · rename_i ac er fl σ hp
    obtain ⟨h1, h2⟩ := Bool.and_eq_true_iff.1 h
    split at h2
    · rename_i t ph fp cs hb
      obtain ⟨h3, h4⟩ := Bool.and_eq_true_iff.1 h2
      obtain rfl := beq_iff'.1 h3
      refine ⟨ac, er, fl, σ, ph, fp, cs, ⟨peelF_at hp (fun b hb => by cases hb)⟩, hb, h1, h4, ?_, ?_, ?_⟩
      · unfold stC; rw [hp]; simp only [hb]
      · unfold stA; rw [hp]
      · unfold stE; rw [hp]
    · cases h2
  · cases h
/-- The rule. -/
noncomputable def stR : List Sv → St → Tree FLeaf
  | [.one (.ptr id (.lit 0)), .agg sg], σ => match alook σ.bk id with
    | some (.ar t false (.ptr gid (.lit 0) :: .i .i64 p l :: cs) none) => match alook σ.bk gid with
      | some (.ar t' _ gs _) => match Nat.beq t 95 && Nat.beq t' 25 && isL lsM cs && isL lsG gs && isL lsS sg && !Nat.beq id gid with
        | true => mustL l (decide (0 ≤ p ∧ p < 6)) (.leaf (nwV p (nOf gs) (bOf cs) (nOf cs) (bOf sg) (nOf sg), putC σ id (.ptr gid (.lit 0) :: nwC p (nOf gs) (bOf cs) (nOf cs) (bOf sg) (nOf sg))))
        | false => .fail
      | _ => .fail
    | _ => .fail
  | _, _ => .fail
theorem symL_in (bs : Nat → Bool) (ns : Nat → Int) (K : List Nat) : ∀ (ls : List Lf) (j : Nat), (symL bs ns j ls).all (Cv.inB K []) = true
  | [], _ => rfl
  | l :: ls, j => by
    rw [symL, List.all_cons, symL_in bs ns K ls (j + 1), Bool.and_true]
    cases l <;> rfl
theorem isL_in {K : List Nat} : ∀ {ls : List Lf} {cs : List Cv}, isL ls cs = true → cs.all (Cv.inB K []) = true
  | [], [], _ => rfl
  | [], _ :: _, h => by cases h
  | .b :: _, [], h => by cases h
  | .i _ :: _, [], h => by cases h
  | .b :: ls, c :: cs, h => by
    cases c with
    | b v fl => rw [List.all_cons, isL_in (show isL ls cs = true from h)]; rfl
    | _ => cases h
  | .i k :: ls, c :: cs, h => by
    cases c with
    | i k' v fl => rw [List.all_cons, isL_in (Bool.and_eq_true_iff.1 h).2]; rfl
    | _ => cases h
theorem isL_ren {ρ : Nat → Nat} : ∀ {ls : List Lf} {cs : List Cv}, isL ls cs = true → cs.map (Cv.ren ρ) = cs
  | [], [], _ => rfl
  | [], _ :: _, h => by cases h
  | .b :: _, [], h => by cases h
  | .i _ :: _, [], h => by cases h
  | .b :: ls, c :: cs, h => by
    cases c with
    | b v fl => rw [List.map_cons, isL_ren (show isL ls cs = true from h)]; rfl
    | _ => cases h
  | .i k :: ls, c :: cs, h => by
    cases c with
    | i k' v fl => rw [List.map_cons, isL_ren (Bool.and_eq_true_iff.1 h).2]; rfl
    | _ => cases h
theorem stT_eq (k : Int) (n : Nat → Int) (b : Nat → Bool) (m : Nat → Int) (h : Nat → Bool) (s : Nat → Int) : stT k n b m h s = evFn tbl wr5 spP 300 12 20 [.one (.ptr 1 (.lit 0)), .agg (symL h s 0 lsS)] (stM k n b m) := by
  unfold stT
  rfl
theorem evFn_hid {T : Tree FLeaf} {f : FuncId} {args : List Sv} {σ : St} {y : FLeaf} (hT : T = evFn tbl wr5 spP 300 12 f args σ) (hy : AtH T y) : FunOk Try.prog f args σ y.1 y.2 := by
  subst hT
  exact evFn_at tbl_ok tbl_any spP_ok hy.out
theorem stT_fun {k : Int} {n : Nat → Int} {b : Nat → Bool} {m : Nat → Int} {h : Nat → Bool} {s : Nat → Int} {y : FLeaf} (hy : AtH (stT k n b m h s) y) : FunOk Try.prog 20 [.one (.ptr 1 (.lit 0)), .agg (symL h s 0 lsS)] (stM k n b m) y.1 y.2 :=
  evFn_hid (stT_eq k n b m h s) hy
set_option maxHeartbeats 1000000 in
theorem stR_ok {args : List Sv} {σ : St} {y : FLeaf} (hy : (stR args σ).At y) : FunOk Try.prog 20 args σ y.1 y.2 := by
  unfold stR at hy
  split at hy
  · rename_i σ id sg
    split at hy
    · rename_i t gid p l cs hb
      split at hy
      · rename_i t' ro' gs cp' hg
        split at hy
        · rename_i hL
          simp only [Bool.and_eq_true, Bool.not_eq_true'] at hL
          obtain ⟨⟨⟨⟨⟨h1, h2⟩, h3⟩, h4⟩, h5⟩, h6⟩ := hL
          obtain rfl := beq_iff'.1 h1
          obtain rfl := beq_iff'.1 h2
          have hne : id ≠ gid := beq_ff.1 h6
          obtain ⟨hq, hy2⟩ := mustL_at' hy
          obtain rfl : _ = y := hy2
          have hq' : 0 ≤ p ∧ p < 6 := by simpa using hq
          obtain ⟨k, rfl⟩ := Int.eq_ofNat_of_zero_le hq'.1
          have hk : k < 6 := by omega
          obtain ⟨ac, er, fl, σ', ph, fp, cs', g1, g2, g3, g4, g5, g6, g7⟩ := okS_at (st_ok k hk (nOf gs) (bOf cs) (nOf cs) (bOf sg) (nOf sg))
          have eA : (fun j => acB j (k : Int) (nOf gs) (bOf cs) (nOf cs) (bOf sg) (nOf sg)) = bOf ac := by funext j; unfold acB; rw [pick6_at hk, g6]
          have eE : erI (k : Int) (nOf gs) (bOf cs) (nOf cs) (bOf sg) (nOf sg) = er := by unfold erI; rw [pick6_at hk, g7]
          have eB : (fun j => nwB j (k : Int) (nOf gs) (bOf cs) (nOf cs) (bOf sg) (nOf sg)) = bOf (.i .i64 ph fp :: cs') := by funext j; unfold nwB; rw [pick6_at hk, g5]
          have eI : (fun j => nwI j (k : Int) (nOf gs) (bOf cs) (nOf cs) (bOf sg) (nOf sg)) = nOf (.i .i64 ph fp :: cs') := by funext j; unfold nwI; rw [pick6_at hk, g5]
          have eC : nwC (k : Int) (nOf gs) (bOf cs) (nOf cs) (bOf sg) (nOf sg) = symL (bOf (.i .i64 ph fp :: cs')) (nOf (.i .i64 ph fp :: cs')) 0 lsP := by unfold nwC; rw [eB, eI]
          have eV : nwV (k : Int) (nOf gs) (bOf cs) (nOf cs) (bOf sg) (nOf sg) = .tup [(true, symL (bOf ac) (fun _ => 0) 0 ls4), (false, [.i .i64 er false])] := by unfold nwV; rw [eA, eE]
          have hPL : isL lsP (.i .i64 ph fp :: cs') = true := by
            show (decide (IntKind.i64 = IntKind.i64) && isL lsM cs') = true
            rw [g4]; rfl
          rw [eV, eC]
          have f0 := stT_fun g1
          clear g1
          have f1 := f0.val (u := .tup [(true, symL (bOf ac) (fun _ => 0) 0 ls4), (false, [.i .i64 er false])]) (fun e => by
            have := canon_den g3 e e
            have e2 : densA e ac = densA e (symL (bOf ac) (fun _ => 0) 0 ls4) := by
              have h9 : Value.agg (densA e ac) = Value.agg (densA e (canon ls4 ac)) := this
              injection h9
            show Value.tuple #[Value.agg (densA e ac), Value.int .i64 er] = Value.tuple #[Value.agg (densA e (symL (bOf ac) (fun _ => 0) 0 ls4)), Value.int .i64 er]
            rw [e2]) rfl
          have f2 := FunOk.renW (args := [.one (.ptr id (.lit 0)), .agg sg]) f1 hb hg hne (same_cons (fun e => rfl) (same_cons (fun e => rfl) (same_isL h3))) (same_isL h4)
            (by rw [List.all_cons, List.all_cons, symL_in]; rfl) (symL_in _ _ _ _ _) g2 (by simp [isL_len g4, symL_len]) (by rw [List.all_cons, List.all_cons, isL_in g4]; rfl)
            (fun e => by
              have e1 := canon_den h5 e (e.ren (rho id gid))
              show [_, (Sv.agg sg).den e] = [_, (Sv.agg (symL (bOf sg) (nOf sg) 0 lsS)).den (e.ren (rho id gid))]
              rw [e1]; rfl)
            (fun x hx => by
              simp only [List.mem_cons, List.not_mem_nil, or_false] at hx
              rcases hx with rfl | rfl
              · exact ⟨rfl, trivial⟩
              · exact Sv.free_sc (show (Sv.agg _).freeB = true from symL_free _ _ _ _) _) rfl
          have lenP : (symL (bOf (.i .i64 ph fp :: cs')) (nOf (.i .i64 ph fp :: cs')) 0 lsP).length = cs'.length + 1 := by rw [symL_len, ← isL_len hPL]; rfl
          refine f2.cells hb (by simp [lenP]) (by simp [lenP, isL_len g4, isL_len h3]) (fun e j => ?_) (fun c hc s hs => ?_) rfl
          · cases j with
            | zero => rfl
            | succ j =>
              have h7 := isL_den (c0 := .i .i64 ph fp :: cs') hPL (fun i => by rw [Nat.zero_add]) e e j
              have h8 : (Cv.i .i64 ph fp :: cs').map (Cv.ren (rho id gid)) = .i .i64 ph fp :: cs' := isL_ren hPL
              rw [List.map_cons, h8, List.getElem?_cons_succ, List.getElem?_cons_succ]
              exact h7.symm
          · cases hc with
            | head => exact ⟨hs gid (by rw [kn_look, hg]; rfl), trivial⟩
            | tail _ hc => exact Cv.free_sc (List.all_eq_true.1 (symL_free _ _ _ _) c hc) s
        · exact hy.elim
      · exact hy.elim
    · exact hy.elim
  · exact hy.elim
end Go.Proofs.Ytgiinciclnekjaa

/-
  The laws of a machine's step: what is to be shown.
-/
set_option linter.unusedSimpArgs false
set_option linter.unusedVariables false
namespace Go.Proofs.Ytgiinciclnekjaa
open Sx Go.RowKit
def qnt (x : Int) : Bool := bif decide (x ≥ -1099511627776) then decide (x ≤ 1099511627776) else false
/-- The signals are refused. -/
def eS (s : Nat → Int) : Bool := bif !qnt (s 27) then true else !qnt (s 28)
def awN (n : Nat → Int) (b : Nat → Bool) (m : Nat → Int) (h : Nat → Bool) (s : Nat → Int) (i : Nat) : Int := bif apP n h s (fun i => b (1 + i)) i then IntKind.i64.wrap (m (11 + i) + 1) else 0
/-- A channel's mark behind a step. -/
def bdN (n : Nat → Int) (b : Nat → Bool) (m : Nat → Int) (h : Nat → Bool) (s : Nat → Int) (i : Nat) : Bool := bif eS s then b (1 + i) else bif b (1 + i) then true else decide (awN n b m h s i ≥ n 17)
theorem bdN_stays {n : Nat → Int} {b : Nat → Bool} {m : Nat → Int} {h : Nat → Bool} {s : Nat → Int} {i : Nat} (hb : b (1 + i) = true) : bdN n b m h s i = true := by
  unfold bdN
  rw [hb]
  cases eS s <;> rfl
def bd3 (T : Tree FLeaf) : Bool × Bool × Bool := (bOf (stC T) 2, bOf (stC T) 3, bOf (stC T) 4)
end Go.Proofs.Ytgiinciclnekjaa

/-
  Code that is stopped at loops: what stands behind a stop is a stack, which is gone on with by hand.
-/
set_option linter.unusedSimpArgs false
set_option linter.unusedVariables false
namespace Go.Proofs.Ytgiinciclnekjaa
namespace Sx
open Go.RowKit

section
variable {P : Program} {tb : Tb}

/-- From the head of a loop's round. -/
def LoopFrom (P : Program) (c : Code) (Q : Exit → Act → World → Prop) (a : Act) (w : World) : Prop :=
  ∀ b k cs, ∃ e a' w', Q e a' w' ∧ Arrives P (lone (b.at a (.code c :: .inLoop c :: k)) cs w) b k cs e a' w'
theorem LoopFrom.wp {c : Code} {Q : Exit → Act → World → Prop} {a : Act} {w : World} (h : LoopFrom P c Q a w) : (Code.loop c).wp P Q a w := by
  intro b k cs
  obtain ⟨e, a', w', hq, harr⟩ := h b k cs
  exact ⟨e, a', w', hq, .of_steps (.one step_loop) harr⟩
theorem LoopFrom.once {c : Code} {Q : Exit → Act → World → Prop} {a : Act} {w : World} (h : c.wp P (Exit.then (LoopFrom P c Q) Q) a w) : LoopFrom P c Q a w := by
  intro b k cs
  obtain ⟨e, a₁, w₁, hq, harr⟩ := h b (.inLoop c :: k) cs
  cases e with
  | normal =>
    obtain ⟨e₂, a₂, w₂, hq₂, harr₂⟩ := hq b k cs
    exact ⟨e₂, a₂, w₂, hq₂, .of_steps (Steps.trans harr (.one step_inLoop)) harr₂⟩
  | exit id => exact ⟨_, a₁, w₁, hq, .pass (x := .inLoop c) rfl (fun _ _ => .inl (by simp)) harr⟩
  | goto l => exact ⟨_, a₁, w₁, hq, .pass (x := .inLoop c) rfl (fun _ _ => .inl (by simp)) harr⟩
  | ret => exact ⟨_, a₁, w₁, hq, .pass (x := .inLoop c) rfl (fun _ _ => .inl (by simp)) harr⟩
  | panic ch => exact ⟨_, a₁, w₁, hq, .pass (x := .inLoop c) rfl (fun _ _ => .inl (by simp)) harr⟩
  | outgrown => exact ⟨_, a₁, w₁, hq, .pass (x := .inLoop c) rfl (fun _ _ => .inl (by simp)) harr⟩
theorem LoopFrom.rounds {c : Code} {Q : Exit → Act → World → Prop} : ∀ {n : Nat} {a : Act} {w : World}, Code.rounds P c Q n a w → LoopFrom P c Q a w
  | 0, _, _, h => h.elim
  | n + 1, a, w, h => LoopFrom.once (Code.wp_mono (fun e a' w' q => by
      cases e with
      | normal => exact LoopFrom.rounds (n := n) q
      | _ => exact q) h)

/-- What is still to be done. -/
inductive Kt where
  | code (c : Code)
  | blk (id : Nat)
  | again (c : Code)
def kPost (P : Program) (Q : Exit → Act → World → Prop) : List Kt → Exit → Act → World → Prop
  | [] => Q
  | .code c :: k => Exit.then (fun a w => c.wp P (kPost P Q k) a w) (kPost P Q k)
  | .blk id :: k => Exit.inBlock id (kPost P Q k)
  | .again c :: k => Exit.then (LoopFrom P c (kPost P Q k)) (kPost P Q k)
inductive Fin where
  | out (o : Out)
  | wait (k : List Kt)
def FPost (P : Program) (Q : Exit → Act → World → Prop) : Fin → Act → World → Prop
  | .out o => Post P Q o
  | .wait k => kPost P Q k .normal
abbrev SLeaf := Fin × St
/-- From the stack k and the state σ to what x says. -/
def SegD (P : Program) (N : Nat) (σ : St) (k : List Kt) (o : Out) (x : SLeaf) : Prop :=
  ∀ (C : Ctx) (e : Env) (a : Act) (w : World) (Q : Exit → Act → World → Prop), Rel C N e (look σ) a w → (∀ e' a' w', Rel C N e' (look x.2) a' w' → FPost P Q x.1 a' w') → Post P (fun o => kPost P Q k o) o a w
theorem SegD.trans {N : Nat} {σ σ' : St} {k k' : List Kt} {o : Out} {x : SLeaf} (h : SegD P N σ k o (.wait k', σ')) (h2 : SegD P N σ' k' .normal x) : SegD P N σ k o x :=
  fun C e a w Q hR hQ => h C e a w Q hR fun e' a' w' hR' => h2 C e' a' w' Q hR' hQ

def hasStop (stops : List Nat) : Nat → Code → Bool
  | 0, _ => true
  | n + 1, c => match c with
    | .seq a b => hasStop stops n a || hasStop stops n b
    | .cond _ a b => hasStop stops n a || hasStop stops n b
    | .block id b => memb stops id || hasStop stops n b
    | .loop b => hasStop stops n b
    | _ => false
def evS (tb : Tb) (wf : List FuncId) (call : CallF) (N cf : Nat) (stops : List Nat) : Nat → List Kt → Out → St → Tree SLeaf
  | 0, _, _, _ => .fail
  | n + 1, k, o, σ => match o with
    | .stop _ => .fail
    | .normal => match k with
      | [] => .leaf (.out .normal, σ)
      | .blk _ :: k => evS tb wf call N cf stops n k .normal σ
      | .again c :: k => evS tb wf call N cf stops n (.code c :: .again c :: k) .normal σ
      | .code c :: k => match hasStop stops cf c with
        | false => (evC tb wf call N [] cf c σ).bind fun x => evS tb wf call N cf stops n k x.1 x.2
        | true => match c with
          | .seq a b => evS tb wf call N cf stops n (.code a :: .code b :: k) .normal σ
          | .block id b => match memb stops id with
            | true => .leaf (.wait (.code (.block id b) :: k), σ)
            | false => evS tb wf call N cf stops n (.code b :: .blk id :: k) .normal σ
          | .loop b => evS tb wf call N cf stops n (.code b :: .again b :: k) .normal σ
          | .cond c a b => match evO σ c with
            | some (.one (.b v true)) => match v with
              | true => evS tb wf call N cf stops n (.code a :: k) .normal σ
              | false => evS tb wf call N cf stops n (.code b :: k) .normal σ
            | some (.one (.b v false)) => .br v (evS tb wf call N cf stops n (.code a :: k) .normal σ) (evS tb wf call N cf stops n (.code b :: k) .normal σ)
            | _ => .fail
          | _ => .fail
    | .exit i => match k with
      | [] => .leaf (.out (.exit i), σ)
      | .blk id :: k => match Nat.beq i id with
        | true => evS tb wf call N cf stops n k .normal σ
        | false => evS tb wf call N cf stops n k (.exit i) σ
      | .again _ :: k => evS tb wf call N cf stops n k (.exit i) σ
      | .code _ :: k => evS tb wf call N cf stops n k (.exit i) σ
    | .ret => match k with
      | [] => .leaf (.out .ret, σ)
      | _ :: k => evS tb wf call N cf stops n k .ret σ
theorem evS_ok {wf : List FuncId} {call : CallF} {N cf : Nat} {stops : List Nat} (hT : TbOk P tb) (hm : P.follows .mixedOrders = true) (hc : CallFOk P call) : ∀ (n : Nat) (k : List Kt) (o : Out) (σ : St) (y : SLeaf), (evS tb wf call N cf stops n k o σ).At y → SegD P N σ k o y
  | 0, _, _, _, _, h => h.elim
  | n + 1, k, o, σ, y, h => by
    have ih := evS_ok (wf := wf) (N := N) (cf := cf) (stops := stops) hT hm hc n
    cases o with
    | stop l => exact h.elim
    | normal =>
      cases k with
      | nil => obtain rfl : _ = y := h; exact fun C e a w Q hR hQ => hQ e a w hR
      | cons x k =>
        cases x with
        | blk id => exact fun C e a w Q hR hQ => ih k .normal σ y h C e a w Q hR hQ
        | again c => exact fun C e a w Q hR hQ => LoopFrom.once (ih (.code c :: .again c :: k) .normal σ y h C e a w Q hR hQ)
        | code c =>
          simp only [evS] at h
          split at h
          · obtain ⟨z, h1, h2⟩ := Tree.At_bind.1 h
            intro C e a w Q hR hQ
            show c.wp P (kPost P Q k) a w
            exact evC_ok hT hm hc cf c σ z h1 C e a w _ hR fun e' a' w' hR' => ih k z.1 z.2 y h2 C e' a' w' Q hR' hQ
          · split at h
            · rename_i a b _
              exact fun C e a' w Q hR hQ => wp_seq (ih (.code a :: .code b :: k) .normal σ y h C e a' w Q hR hQ)
            · rename_i id b _
              split at h
              · obtain rfl : _ = y := h
                exact fun C e a w Q hR hQ => hQ e a w hR
              · exact fun C e a w Q hR hQ => wp_block (ih (.code b :: .blk id :: k) .normal σ y h C e a w Q hR hQ)
            · rename_i b _
              exact fun C e a w Q hR hQ => LoopFrom.wp (LoopFrom.once (ih (.code b :: .again b :: k) .normal σ y h C e a w Q hR hQ))
            · rename_i c a b _
              have hev : ∀ {v l : Bool}, evO σ c = some (.one (.b v l)) → ∀ (C : Ctx) (e : Env) (a : Act) (w : World), Rel C N e (look σ) a w → a.eval c = .bool v := fun hv C e a w hR => (sees_of hR (x := c) (fun _ _ => rfl) _ hv).1
              split at h
              · rename_i v hv
                split at h
                · exact fun C e a' w Q hR hQ => wp_cond (hev hv C e a' w hR) (ih (.code a :: k) .normal σ y h C e a' w Q hR hQ)
                · exact fun C e a' w Q hR hQ => wp_cond (hev hv C e a' w hR) (ih (.code b :: k) .normal σ y h C e a' w Q hR hQ)
              · rename_i v hv
                rcases h with ⟨hb, h⟩ | ⟨hb, h⟩
                · intro C e a' w Q hR hQ
                  refine wp_cond (hev hv C e a' w hR) ?_
                  rw [hb]
                  exact ih (.code a :: k) .normal σ y h C e a' w Q hR hQ
                · intro C e a' w Q hR hQ
                  refine wp_cond (hev hv C e a' w hR) ?_
                  rw [hb]
                  exact ih (.code b :: k) .normal σ y h C e a' w Q hR hQ
              · exact h.elim
            · exact h.elim
    | exit i =>
      cases k with
      | nil => obtain rfl : _ = y := h; exact fun C e a w Q hR hQ => hQ e a w hR
      | cons x k =>
        cases x with
        | code c => exact fun C e a w Q hR hQ => ih k (.exit i) σ y h C e a w Q hR hQ
        | again c => exact fun C e a w Q hR hQ => ih k (.exit i) σ y h C e a w Q hR hQ
        | blk id =>
          simp only [evS] at h
          split at h
          · rename_i hb
            intro C e a w Q hR hQ
            show (if i = id then kPost P Q k .normal a w else kPost P Q k (.exit i) a w)
            rw [if_pos (beq_iff'.1 hb)]
            exact ih k .normal σ y h C e a w Q hR hQ
          · rename_i hb
            intro C e a w Q hR hQ
            show (if i = id then kPost P Q k .normal a w else kPost P Q k (.exit i) a w)
            rw [if_neg (beq_ff.1 hb)]
            exact ih k (.exit i) σ y h C e a w Q hR hQ
    | ret =>
      cases k with
      | nil => obtain rfl : _ = y := h; exact fun C e a w Q hR hQ => hQ e a w hR
      | cons x k =>
        cases x with
        | code c => exact fun C e a w Q hR hQ => ih k .ret σ y h C e a w Q hR hQ
        | again c => exact fun C e a w Q hR hQ => ih k .ret σ y h C e a w Q hR hQ
        | blk id => exact fun C e a w Q hR hQ => ih k .ret σ y h C e a w Q hR hQ
theorem evS_every {wf : List FuncId} {call : CallF} {N cf : Nat} {stops : List Nat} : ∀ {n : Nat} {k : List Kt} {o : Out} {σ : St}, (evS tb wf call N cf stops n k o σ).Every fun x => Ext σ x.2
  | 0, _, _, _ => trivial
  | n + 1, k, o, σ => by
    have ih : ∀ {k : List Kt} {o : Out} {σ : St}, (evS tb wf call N cf stops n k o σ).Every fun x => Ext σ x.2 := evS_every (n := n)
    cases o with
    | stop l => trivial
    | normal =>
      cases k with
      | nil => exact Ext.refl σ
      | cons x k =>
        cases x with
        | blk id => exact ih
        | again c => exact ih
        | code c =>
          simp only [evS]
          split
          · exact Tree.Every.bind (evC_every.mono fun x hx => ih.mono fun y hy => hx.trans hy)
          · split
            · exact ih
            · split
              · exact Ext.refl σ
              · exact ih
            · exact ih
            · split
              · split
                · exact ih
                · exact ih
              · exact ⟨ih, ih⟩
              · trivial
            · trivial
    | exit i =>
      cases k with
      | nil => exact Ext.refl σ
      | cons x k =>
        cases x with
        | code c => exact ih
        | again c => exact ih
        | blk id => simp only [evS]; split <;> exact ih
    | ret =>
      cases k with
      | nil => exact Ext.refl σ
      | cons x k => cases x <;> exact ih

/-- A function, from what its code comes to. -/
theorem seg_fun {f : FuncId} {fn : Func} {c : Code} (hT : TbOk P tb) (hf : P.funcs[f]? = some fn) (hb : fn.body = some c) {args : List Sv} {σ σ' : St} {vs : List Nat} {o : Out} {v : Sv} (hle : args.length ≤ fn.ntmps)
    (h : SegD P fn.ntmps (enterSt (withVr σ vs) args) [.code c] .normal (.out o, σ')) (ho : o = .normal ∨ o = .ret) (hx : Ext (enterSt (withVr σ vs) args) σ') (hv : evRes tb σ' fn.results.toList = some v) : FunOk P f args σ v σ' := by
  have hkeep := ext_keep hx
  refine ⟨fun C e w hp ha => ?_, fun id off hk hu => hkeep id off hk hu⟩
  let C' : Ctx := { M := C.M, w0 := C.w0, pin := fun id => if (look σ (.k id)).isSome = true then some (e.pl id) else none, pinn := fun c => if (look σ (.n c)).isSome = true then some (e.nm c) else none }
  have hp' : Hp C' e (look σ) w := ⟨hp.new, hp.cl, hp.ar, hp.oq, hp.cp, hp.inj, hp.lt, hp.mu, ⟨(fun id p hh => by
    simp only [C'] at hh
    split at hh
    · rename_i hk; exact ⟨Option.some.inj hh, hk⟩
    · cases hh), (fun c m hh => by
    simp only [C'] at hh
    split at hh
    · rename_i hk; exact ⟨Option.some.inj hh, hk⟩
    · cases hh)⟩, hp.fr⟩
  have hR := enter_rel (σ := withVr σ vs) (by rw [look_withVr]; exact hp') (by rw [look_withVr]; exact ha) hle
  refine calls_of_wp hf hb ?_
  refine h C' e _ w (bodyPost P fn _) hR fun e' a' w' hR' => ?_
  obtain ⟨r1, r2⟩ := evRes_run hT hR' hv
  have hA : Agree (look σ) e e' := by
    refine ⟨fun id hid => (hR'.hp.pin.1 id (e.pl id) ?_).1, fun c hc => (hR'.hp.pin.2 c (e.nm c) ?_).1⟩
    · exact if_pos hid
    · exact if_pos hc
  have hfin : Hp C e' (look σ') w' := by
    have q := hR'.hp
    refine ⟨q.new, q.cl, q.ar, q.oq, q.cp, q.inj, q.lt, q.mu, ⟨fun id p hh => ?_, fun c m hh => ?_⟩, q.fr⟩
    · obtain ⟨p1, p2⟩ := hp.pin.1 id p hh
      have := q.pin.1 id (e.pl id) (if_pos p2)
      exact ⟨this.1.trans p1, this.2⟩
    · obtain ⟨p1, p2⟩ := hp.pin.2 c m hh
      have := q.pin.2 c (e.nm c) (if_pos p2)
      exact ⟨this.1.trans p1, this.2⟩
  have hend : ∃ v', (results fn a'.tmps).run P w' = .ok v' w' ∧ ∃ e'', Agree (look σ) e e'' ∧ Hp C e'' (look σ') w' ∧ Ending.returned v' = .returned (v.den e'') ∧ v.sc (look σ') :=
    ⟨_, r1, e', hA, hfin, rfl, r2⟩
  rcases ho with ho | ho
  · rw [ho]
    exact ⟨hR'.df, hend⟩
  · rw [ho]
    exact ⟨hR'.df, hend⟩
end
end Sx
end Go.Proofs.Ytgiinciclnekjaa

/-
  Families of states for loops: places that change from round to round, rows that grow.
-/
set_option linter.unusedSimpArgs false
set_option linter.unusedVariables false
namespace Go.Proofs.Ytgiinciclnekjaa
namespace Sx
open Go.RowKit

section
variable {P : Program} {tb : Tb}

/-- What the changing places hold: truth values, numbers; rows: how many elements, how many cells, what they hold. -/
structure FVal where
  b : Nat → Bool
  i : Nat → Int
  n : Nat → Nat
  m : Nat → Nat
  f : Nat → Nat → Value
inductive FamP where
  | t (n : Nat) (l : Lf)
  | c (id off : Nat) (l : Lf)
  | row (t el size id c : Nat)
def FamP.ws (v : FVal) (j : Nat) : FamP → List Wr
  | .t n l => [.tm n (.one (l.cv v.b v.i j))]
  | .c id off l => [.cell id off (l.cv v.b v.i j)]
  | .row sl el size id cn => [.nm cn, .new id (.oq el false (v.m j) (v.f j) (some (cn, size))), .tm sl (.one (.slc id (.lit 0) (.opq (v.n j)) (.nam cn)))]
def famW (v : FVal) : Nat → List FamP → List Wr
  | _, [] => []
  | j, p :: d => p.ws v j ++ famW v (j + 1) d
/-- What an itm says of a place. -/
def FamP.at_ (v : FVal) (j : Nat) : FamP → Loc → Option (Option LV)
  | .t n l, .t n' => if n' = n then some (some (.sv (.one (l.cv v.b v.i j)))) else none
  | .c id off l, .c i o => if i = id ∧ o = off then some (some (.cv (l.cv v.b v.i j))) else none
  | .row sl _ _ id cn, .t n' => if n' = sl then some (some (.sv (.one (.slc id (.lit 0) (.opq (v.n j)) (.nam cn))))) else none
  | .row _ el size id cn, .k i => if i = id then some (some (.bk (.oq el false (v.m j) (v.f j) (some (cn, size))))) else none
  | .row _ _ _ id _, .c i _ => if i = id then some none else none
  | .row _ _ _ _ cn, .n c' => if c' = cn then some (some .nm) else none
  | _, _ => none
theorem FamP.fns_ws (v : FVal) (j : Nat) (p : FamP) (l : Loc) : fns (p.ws v j) l = p.at_ v j l := by
  cases p with
  | t n lf => cases l <;> simp [FamP.ws, fns, Wr.fn, FamP.at_]
  | c id off lf => cases l <;> simp [FamP.ws, fns, Wr.fn, FamP.at_]
  | row t el size id c =>
    cases l with
    | t n' =>
      simp only [FamP.ws, fns, Wr.fn, FamP.at_]
      by_cases e : n' = t
      · simp [e]
      · simp [e]
    | c i o =>
      simp only [FamP.ws, fns, Wr.fn, FamP.at_]
      by_cases e : i = id
      · simp [e, Blk.cell]
      · simp [e]
    | k i => 
      simp only [FamP.ws, fns, Wr.fn, FamP.at_]
      by_cases e : i = id
      · simp [e, Blk.info]
      · simp [e]
    | n c' =>
      simp only [FamP.ws, fns, Wr.fn, FamP.at_]
theorem fns_append (xs ys : List Wr) (l : Loc) : fns (xs ++ ys) l = match fns ys l with
    | some z => some z
    | none => fns xs l := by
  induction xs with
  | nil => simp only [List.nil_append, fns]; cases fns ys l <;> rfl
  | cons x xs ih =>
    simp only [List.cons_append, fns, ih]
    cases fns ys l <;> rfl
theorem fns_fam (v : FVal) (l : Loc) : ∀ (d : List FamP) (j : Nat), (fns (famW v j d) l = none ∧ ∀ p ∈ d, ∀ v' j', p.at_ v' j' l = none) ∨ ∃ (i : Nat) (p : FamP), d[i]? = some p ∧ fns (famW v j d) l = p.at_ v (j + i) l ∧ (p.at_ v (j + i) l).isSome = true
  | [], j => Or.inl ⟨rfl, fun p hp => by cases hp⟩
  | p :: d, j => by
    rcases fns_fam v l d (j + 1) with ⟨h1, h2⟩ | ⟨i, q, h1, h2, h3⟩
    · cases hp : p.at_ v j l with
      | none =>
        refine Or.inl ⟨?_, fun q hq => ?_⟩
        · rw [famW, fns_append, h1, FamP.fns_ws, hp]
        · rcases List.mem_cons.1 hq with rfl | hq
          · intro v' j'
            cases q <;> cases l <;> simp only [FamP.at_] at hp ⊢ <;> split at hp <;> simp_all
          · exact h2 q hq
      | some z =>
        refine Or.inr ⟨0, p, rfl, ?_, by rw [Nat.add_zero, hp]; rfl⟩
        rw [famW, fns_append, h1, FamP.fns_ws, Nat.add_zero]
    · refine Or.inr ⟨i + 1, q, by simpa using h1, ?_, by rw [show j + (i + 1) = j + 1 + i by omega]; exact h3⟩
      rw [show j + (i + 1) = j + 1 + i by omega]
      obtain ⟨z, hz⟩ := Option.isSome_iff_exists.1 h3
      rw [famW, fns_append, h2, hz]
/-- A place of the family. -/
def inF (d : List FamP) (l : Loc) : Prop := ∃ p ∈ d, ∃ v j, (p.at_ v j l).isSome = true
theorem fam_out {v : FVal} {d : List FamP} {s : Sto} {l : Loc} (h : ¬ inF d l) : upds s (famW v 0 d) l = s l := by
  rw [upds_fns]
  rcases fns_fam v l d 0 with ⟨h1, _⟩ | ⟨i, p, h1, h2, h3⟩
  · dsimp only; rw [h1]; rfl
  · exact absurd ⟨p, List.mem_of_getElem? h1, v, _, h3⟩ h
theorem fam_in {v : FVal} {d : List FamP} {s : Sto} {l : Loc} (h : inF d l) : ∃ (i : Nat) (p : FamP) (z : Option LV), d[i]? = some p ∧ p.at_ v i l = some z ∧ upds s (famW v 0 d) l = z := by
  rw [upds_fns]
  rcases fns_fam v l d 0 with ⟨_, h2⟩ | ⟨i, p, h1, h2, h3⟩
  · obtain ⟨p, hp, v', j', h⟩ := h
    rw [h2 p hp v' j'] at h; cases h
  · rw [Nat.zero_add] at h2 h3
    obtain ⟨z, hz⟩ := Option.isSome_iff_exists.1 h3
    exact ⟨i, p, z, h1, hz, by dsimp only; rw [h2, hz]; rfl⟩

/-! What a state says of the family's places. -/
structure RowV where
  id : Nat
  c : Nat
  n : Nat
  m : Nat
  f : Nat → Value
def rowRd (el size : Nat) (y : St) (t : Nat) : Option RowV := match alook y.tm t with
  | some (.one (.slc id (.lit 0) (.opq n) (.nam c))) => match alook y.bk id with
    | some (.oq el' false m f (some (c', size'))) => match Nat.beq el el' && (Nat.beq c c' && Nat.beq size size') with
      | true => some ⟨id, c, n, m, f⟩
      | false => none
    | _ => none
  | some (.one (.slc id (.lit 0) (.lit n) (.nam c))) => match alook y.bk id with
    | some (.ar el' false cs (some (c', size'))) => match Nat.beq el el' && (Nat.beq c c' && (Nat.beq size size' && cs.all Cv.freeB)) with
      | true => some ⟨id, c, n, cs.length, fun o => ((cs[o]?).map (·.den env0)).getD undef⟩
      | false => none
    | _ => none
  | _ => none
def scRd (y : St) : FamP → Option Cv
  | .t n _ => match alook y.tm n with
    | some (.one z) => some z
    | _ => none
  | .c id off _ => (alook y.bk id).bind fun b => b.cell off
  | .row _ _ _ _ _ => none
def rwOf (y : St) : FamP → Option RowV
  | .row t el size _ _ => rowRd el size y t
  | _ => none
def rvB (d : List FamP) (y : St) (j : Nat) : Bool := (((d[j]?).bind (scRd y)).map cvB).getD false
def rvI (d : List FamP) (y : St) (j : Nat) : Int := (((d[j]?).bind (scRd y)).map cvI).getD 0
def rvR (d : List FamP) (y : St) (j : Nat) : Option RowV := (d[j]?).bind (rwOf y)
def cutF (m : Nat) (f : Nat → Value) (o : Nat) : Value := bif Nat.blt o m then f o else undef
def rvV (d : List FamP) (y : St) : FVal where
  b := rvB d y
  i := rvI d y
  n := fun j => ((rvR d y j).map (·.n)).getD 0
  m := fun j => ((rvR d y j).map (·.m)).getD 0
  f := fun j => ((rvR d y j).map fun r => cutF r.m r.f).getD fun _ => undef
/-- The blocks and the capacities' names of the rows: in the family, in the state. -/
def rIds : List FamP → List Nat
  | [] => []
  | .row _ _ _ id _ :: d => id :: rIds d
  | _ :: d => rIds d
def rCs : List FamP → List Nat
  | [] => []
  | .row _ _ _ _ c :: d => c :: rCs d
  | _ :: d => rCs d
def yIds (y : St) : List FamP → List Nat
  | [] => []
  | .row t el size _ _ :: d => ((rowRd el size y t).map (·.id)).getD 0 :: yIds y d
  | _ :: d => yIds y d
def renI (y : St) : List FamP → Nat → Nat
  | [], i => i
  | .row t el size id _ :: d, i => match Nat.beq id i with
    | true => ((rowRd el size y t).map (·.id)).getD 0
    | false => renI y d i
  | _ :: d, i => renI y d i
def renC (y : St) : List FamP → Nat → Nat
  | [], i => i
  | .row t el size _ c :: d, i => match Nat.beq c i with
    | true => ((rowRd el size y t).map (·.c)).getD 0
    | false => renC y d i
  | _ :: d, i => renC y d i
def renE (y : St) (d : List FamP) (e : Env) : Env := ⟨fun i => e.pl (renI y d i), fun c => e.nm (renC y d c)⟩
def distinct : List Nat → Bool
  | [] => true
  | x :: l => !memb l x && distinct l
def okFamP (σ y : St) : FamP → Bool
  | .t n l => match scRd y (.t n l) with
    | some z => l.fits z
    | none => false
  | .c id off l => (match scRd y (.c id off l) with
    | some z => l.fits z
    | none => false) && match alook σ.bk id with
    | some (.ar _ _ cs _) => Nat.blt off cs.length
    | _ => false
  | .row t el size id c => (rowRd el size y t).isSome && ((alook σ.bk id).isNone && !memb σ.nl c)
def okF (d : List FamP) (σ y : St) : Bool := d.all (okFamP σ y) && (distinct (rIds d) && (distinct (rCs d) && (distinct (yIds y d) && (yIds y d).all fun i => (alook σ.bk i).isNone)))

theorem renI_out {y : St} {i : Nat} : ∀ {d : List FamP}, i ∉ rIds d → renI y d i = i
  | [], _ => rfl
  | .t _ _ :: d, h => renI_out (d := d) h
  | .c _ _ _ :: d, h => renI_out (d := d) h
  | .row t el size id c :: d, h => by
    simp only [rIds, List.mem_cons, not_or] at h
    simp only [renI, beq_ff.2 (Ne.symm h.1)]
    exact renI_out h.2
theorem renC_out {y : St} {i : Nat} : ∀ {d : List FamP}, i ∉ rCs d → renC y d i = i
  | [], _ => rfl
  | .t _ _ :: d, h => renC_out (d := d) h
  | .c _ _ _ :: d, h => renC_out (d := d) h
  | .row t el size id c :: d, h => by
    simp only [rCs, List.mem_cons, not_or] at h
    simp only [renC, beq_ff.2 (Ne.symm h.1)]
    exact renC_out h.2
theorem mem_rIds {t el size id c : Nat} : ∀ {d : List FamP}, FamP.row t el size id c ∈ d → id ∈ rIds d ∧ c ∈ rCs d
  | [], h => by cases h
  | p :: d, h => by
    rcases List.mem_cons.1 h with rfl | h
    · exact ⟨List.mem_cons_self, List.mem_cons_self⟩
    · obtain ⟨h1, h2⟩ := mem_rIds h
      cases p with
      | row => exact ⟨List.mem_cons_of_mem _ h1, List.mem_cons_of_mem _ h2⟩
      | _ => exact ⟨h1, h2⟩
theorem renI_row {y : St} {t el size id c : Nat} : ∀ {d : List FamP}, distinct (rIds d) = true → FamP.row t el size id c ∈ d → renI y d id = ((rowRd el size y t).map (·.id)).getD 0
  | [], _, h => by cases h
  | .t _ _ :: d, hd, h => by
    rcases List.mem_cons.1 h with h | h
    · cases h
    · exact renI_row (d := d) hd h
  | .c _ _ _ :: d, hd, h => by
    rcases List.mem_cons.1 h with h | h
    · cases h
    · exact renI_row (d := d) hd h
  | .row t' el' size' id' c' :: d, hd, h => by
    simp only [rIds, distinct, Bool.and_eq_true, Bool.not_eq_true'] at hd
    rcases List.mem_cons.1 h with h | h
    · cases h
      simp only [renI, Nat.beq_refl]
    · have hne : id' ≠ id := by
        intro e
        have := memb_iff.2 (mem_rIds h).1
        rw [← e, hd.1] at this; cases this
      simp only [renI, beq_ff.2 hne]
      exact renI_row hd.2 h
theorem renC_row {y : St} {t el size id c : Nat} : ∀ {d : List FamP}, distinct (rCs d) = true → FamP.row t el size id c ∈ d → renC y d c = ((rowRd el size y t).map (·.c)).getD 0
  | [], _, h => by cases h
  | .t _ _ :: d, hd, h => by
    rcases List.mem_cons.1 h with h | h
    · cases h
    · exact renC_row (d := d) hd h
  | .c _ _ _ :: d, hd, h => by
    rcases List.mem_cons.1 h with h | h
    · cases h
    · exact renC_row (d := d) hd h
  | .row t' el' size' id' c' :: d, hd, h => by
    simp only [rCs, distinct, Bool.and_eq_true, Bool.not_eq_true'] at hd
    rcases List.mem_cons.1 h with h | h
    · cases h
      simp only [renC, Nat.beq_refl]
    · have hne : c' ≠ c := by
        intro e
        have := memb_iff.2 (mem_rIds h).2
        rw [← e, hd.1] at this; cases this
      simp only [renC, beq_ff.2 hne]
      exact renC_row hd.2 h
theorem mem_yIds {y : St} {t el size id c : Nat} : ∀ {d : List FamP}, FamP.row t el size id c ∈ d → ((rowRd el size y t).map (·.id)).getD 0 ∈ yIds y d
  | [], h => by cases h
  | p :: d, h => by
    rcases List.mem_cons.1 h with rfl | h2
    · exact List.mem_cons_self
    · cases p with
      | row => exact List.mem_cons_of_mem _ (mem_yIds h2)
      | _ => exact mem_yIds (d := d) h2
theorem rId_row {i : Nat} : ∀ {d : List FamP}, i ∈ rIds d → ∃ t el size c, FamP.row t el size i c ∈ d
  | [], h => by cases h
  | .t _ _ :: d, h => by obtain ⟨t, el, s, c, h⟩ := rId_row (d := d) h; exact ⟨t, el, s, c, List.mem_cons_of_mem _ h⟩
  | .c _ _ _ :: d, h => by obtain ⟨t, el, s, c, h⟩ := rId_row (d := d) h; exact ⟨t, el, s, c, List.mem_cons_of_mem _ h⟩
  | .row t el size id c :: d, h => by
    rcases List.mem_cons.1 (show i ∈ id :: rIds d from h) with rfl | h
    · exact ⟨t, el, size, c, List.mem_cons_self⟩
    · obtain ⟨t, el, s, c, h⟩ := rId_row h; exact ⟨t, el, s, c, List.mem_cons_of_mem _ h⟩
/-- Two rows of the family never stand for one block. -/
theorem renI_inj {y : St} {i i' : Nat} : ∀ {d : List FamP}, distinct (yIds y d) = true → i ∈ rIds d → i' ∈ rIds d → distinct (rIds d) = true → renI y d i = renI y d i' → i = i'
  | [], _, h, _, _, _ => by cases h
  | .t _ _ :: d, hy, h, h', hd, he => renI_inj (d := d) hy h h' hd he
  | .c _ _ _ :: d, hy, h, h', hd, he => renI_inj (d := d) hy h h' hd he
  | .row t el size id c :: d, hy, h, h', hd, he => by
    have hd0 := hd
    simp only [rIds, distinct, Bool.and_eq_true, Bool.not_eq_true'] at hd
    simp only [yIds, distinct, Bool.and_eq_true, Bool.not_eq_true'] at hy
    have other : ∀ {k : Nat}, k ∈ rIds d → k ≠ id → renI y (.row t el size id c :: d) k = renI y d k ∧ renI y d k ∈ yIds y d := by
      intro k hk hne
      refine ⟨by simp only [renI, beq_ff.2 (Ne.symm hne)], ?_⟩
      obtain ⟨t', el', s', c', hm⟩ := rId_row hk
      rw [renI_row hd.2 hm]
      exact mem_yIds hm
    have self : renI y (.row t el size id c :: d) id = ((rowRd el size y t).map (·.id)).getD 0 := by simp only [renI, Nat.beq_refl]
    have hne : ∀ {k : Nat}, k ∈ rIds d → k ≠ id := by
      intro k hk e
      have := memb_iff.2 hk
      rw [e, hd.1] at this; cases this
    rcases List.mem_cons.1 (show i ∈ id :: rIds d from h) with rfl | g
    · rcases List.mem_cons.1 (show i' ∈ i :: rIds d from h') with rfl | h'
      · rfl
      · exfalso
        obtain ⟨o1, o2⟩ := other h' (hne h')
        rw [self, o1] at he
        have := memb_iff.2 o2
        rw [← he, hy.1] at this; cases this
    · rcases List.mem_cons.1 (show i' ∈ id :: rIds d from h') with rfl | g'
      · exfalso
        obtain ⟨o1, o2⟩ := other g (hne g)
        rw [self, o1] at he
        have := memb_iff.2 o2
        rw [he, hy.1] at this; cases this
      · rw [(other g (hne g)).1, (other g' (hne g')).1] at he
        exact renI_inj hy.2 g g' hd.2 he

/-- What a row that is read is. -/
theorem rowRd_at {el size t : Nat} {y : St} {r : RowV} (h : rowRd el size y t = some r) : ∃ v, look y (.t t) = some (.sv v) ∧ (∀ e, v.den e = .slice (some (e.ad r.id 0)) r.n (e.nm r.c)) ∧
    ∃ b, look y (.k r.id) = some (.bk b) ∧ b.rw = true ∧ b.live = true ∧ b.t = el ∧ b.n = r.m ∧ b.cp = some (r.c, size) ∧
      ((∃ f, b = .oq el false r.m f (some (r.c, size)) ∧ r.f = f) ∨ (∃ cs : List Cv, b = .ar el false cs.length (some (r.c, size)) ∧ (∀ o c, cs[o]? = some c → look y (.c r.id o) = some (.cv c) ∧ c.freeB = true) ∧ cs.length = r.m ∧ r.f = fun o => ((cs[o]?).map (·.den env0)).getD undef)) := by
  unfold rowRd at h
  split at h
  · rename_i id n c ht
    split at h
    · rename_i el' m f c' size' hb
      split at h
      · rename_i hc
        simp only [Bool.and_eq_true, beq_iff'] at hc
        obtain ⟨rfl, rfl, rfl⟩ := hc
        obtain rfl := Option.some.inj h
        refine ⟨_, by simp only [look, ht]; rfl, fun e => rfl, .oq el false m f (some (c, size)), by simp only [look, hb]; rfl, rfl, rfl, rfl, rfl, rfl, Or.inl ⟨f, rfl, rfl⟩⟩
      · cases h
    · cases h
  · rename_i id n c ht
    split at h
    · rename_i el' cs c' size' hb
      split at h
      · rename_i hc
        simp only [Bool.and_eq_true, beq_iff'] at hc
        obtain ⟨rfl, rfl, rfl, hfree⟩ := hc
        obtain rfl := Option.some.inj h
        refine ⟨_, by simp only [look, ht]; rfl, fun e => rfl, .ar el false cs.length (some (c, size)), by simp only [look, hb]; rfl, rfl, rfl, rfl, rfl, rfl, Or.inr ⟨cs, rfl, fun o c' hc' => ⟨?_, List.all_eq_true.1 hfree _ (List.mem_of_getElem? hc')⟩, rfl, rfl⟩⟩
        simp only [look, hb, Option.bind_some, Blk.cell, hc', Option.map_some]
      · cases h
    · cases h
  · cases h

/-- What is known of the base is known of the state, but for the family's places. -/
def KeepsF (d : List FamP) (σ y : St) : Prop := ∀ l v, look σ l = some v → ¬ inF d l → v ≠ .bk .gone → look y l = some v
theorem inF_k {d : List FamP} {i : Nat} : inF d (.k i) ↔ i ∈ rIds d := by
  constructor
  · rintro ⟨p, hp, v, j, h⟩
    cases p with
    | t n l => cases h
    | c id off l => cases h
    | row t el size id c =>
      simp only [FamP.at_] at h
      split at h
      · rename_i e; subst e; exact (mem_rIds hp).1
      · cases h
  · intro h
    obtain ⟨t, el, size, c, hm⟩ := rId_row h
    exact ⟨_, hm, ⟨fun _ => false, fun _ => 0, fun _ => 0, fun _ => 0, fun _ _ => undef⟩, 0, by simp [FamP.at_]⟩
theorem inF_n {d : List FamP} {i : Nat} (h : inF d (.n i)) : i ∈ rCs d := by
  obtain ⟨p, hp, v, j, h⟩ := h
  cases p with
  | t n l => cases h
  | c id off l => cases h
  | row t el size id c =>
    simp only [FamP.at_] at h
    split at h
    · rename_i e; subst e; exact (mem_rIds hp).2
    · cases h
set_option maxHeartbeats 1000000 in
theorem fam_rel {C : Ctx} {N : Nat} {e : Env} {a : Act} {w : World} {d : List FamP} {σ y : St} (hws : WS (look σ)) (hkeep : KeepsF d σ y) (ok : okF d σ y = true) (hpin : (∀ id p, C.pin id = some p → kn (look σ) id) ∧ ∀ c m, C.pinn c = some m → knn (look σ) c)
    (hR : Rel C N e (look y) a w) : Rel C N (renE y d e) (upds (look σ) (famW (rvV d y) 0 d)) a w := by
  generalize hT : upds (look σ) (famW (rvV d y) 0 d) = T
  unfold okF at ok
  simp only [Bool.and_eq_true] at ok
  obtain ⟨o1, o2, o3, o4, o5⟩ := ok
  have itm : ∀ {i p}, d[i]? = some p → okFamP σ y p = true := fun h => List.all_eq_true.1 o1 _ (List.mem_of_getElem? h)
  have rowI : ∀ {t el size id c}, FamP.row t el size id c ∈ d → (∃ r, rowRd el size y t = some r ∧ renI y d id = r.id ∧ renC y d c = r.c ∧ alook σ.bk r.id = none) ∧ alook σ.bk id = none ∧ memb σ.nl c = false := by
    intro t el size id c hm
    have h := List.all_eq_true.1 o1 _ hm
    simp only [okFamP, Bool.and_eq_true, Bool.not_eq_true'] at h
    obtain ⟨h1, h2, h3⟩ := h
    obtain ⟨r, hr⟩ := Option.isSome_iff_exists.1 h1
    refine ⟨⟨r, hr, by rw [renI_row o2 hm, hr]; rfl, by rw [renC_row o3 hm, hr]; rfl, ?_⟩, by simpa using h2, h3⟩
    have := List.all_eq_true.1 o5 _ (mem_yIds (y := y) hm)
    rw [hr] at this
    simpa using this
  -- names of the base are not the family's
  have kI : ∀ {i}, kn (look σ) i → i ∉ rIds d := by
    intro i hk hm
    obtain ⟨t, el, s, c, h⟩ := rId_row hm
    have := (rowI h).2.1
    rw [kn_look, this] at hk; cases hk
  have kC : ∀ {c}, knn (look σ) c → c ∉ rCs d := by
    intro c hk hm
    have : ∀ {d' : List FamP}, c ∈ rCs d' → ∃ t el size id, FamP.row t el size id c ∈ d' := by
      intro d'
      induction d' with
      | nil => intro h; cases h
      | cons p d' ih =>
        intro h
        cases p with
        | t n l => obtain ⟨t, el, s, i, h⟩ := ih h; exact ⟨t, el, s, i, List.mem_cons_of_mem _ h⟩
        | c id off l => obtain ⟨t, el, s, i, h⟩ := ih h; exact ⟨t, el, s, i, List.mem_cons_of_mem _ h⟩
        | row t el size id c' =>
          rcases List.mem_cons.1 (show c ∈ c' :: rCs d' from h) with rfl | h
          · exact ⟨t, el, size, id, List.mem_cons_self⟩
          · obtain ⟨t, el, s, i, h⟩ := ih h; exact ⟨t, el, s, i, List.mem_cons_of_mem _ h⟩
    obtain ⟨t, el, s, i, h⟩ := this hm
    have := (rowI h).2.2
    unfold knn at hk
    simp only [look, this] at hk
    cases hk
  have hA : Agree (look σ) e (renE y d e) := ⟨fun i hk => by show e.pl (renI y d i) = _; rw [renI_out (kI hk)], fun c hk => by show e.nm (renC y d c) = _; rw [renC_out (kC hk)]⟩
  have Tk : ∀ {i}, kn (look σ) i → T (.k i) = look σ (.k i) := fun hk => by rw [← hT]; exact fam_out fun h => kI hk (inF_k.1 h)
  have hS : Sub (look σ) T := by
    refine ⟨fun i hk => by unfold kn; rw [Tk hk]; exact hk, fun c hk => ?_⟩
    unfold knn
    rw [← hT, fam_out fun h => kC hk (inF_n h)]; exact hk
  have adk : ∀ {i off}, kn (look σ) i → (renE y d e).ad i off = e.ad i off := fun hk => hA.ad hk
  -- the blocks of the family's states
  have blkT : ∀ {i b}, T (.k i) = some (.bk b) → b.live = true → (look σ (.k i) = some (.bk b) ∧ look y (.k i) = some (.bk b) ∧ renI y d i = i ∧ kn (look σ) i) ∨
      ∃ (j t el size c : Nat) (r : RowV), d[j]? = some (FamP.row t el size i c) ∧ rowRd el size y t = some r ∧ b = .oq el false r.m (cutF r.m r.f) (some (c, size)) ∧ renI y d i = r.id ∧ renC y d c = r.c ∧ alook σ.bk r.id = none := by
    intro i b hb hl
    by_cases h : inF d (.k i)
    · obtain ⟨j, p, z, h1, h2, h3⟩ := fam_in (v := rvV d y) (s := look σ) h
      rw [hT] at h3
      cases p with
      | t n l => cases h2
      | c id off l => cases h2
      | row t el size id c =>
        simp only [FamP.at_] at h2
        split at h2
        · rename_i e1
          subst e1
          obtain rfl := Option.some.inj h2
          rw [h3] at hb
          obtain ⟨⟨r, hr, q1, q2, q3⟩, _⟩ := rowI (List.mem_of_getElem? h1)
          refine Or.inr ⟨j, t, el, size, c, r, h1, hr, ?_, q1, q2, q3⟩
          have hrow : rvR d y j = some r := by simp only [rvR, h1, Option.bind_some, rwOf, hr]
          have hm : (rvV d y).m j = r.m := by simp only [rvV, hrow, Option.map_some, Option.getD_some]
          have hf : (rvV d y).f j = cutF r.m r.f := by simp only [rvV, hrow, Option.map_some, Option.getD_some]
          rw [hm, hf] at hb
          simpa using hb.symm
        · cases h2
    · have h3 : T (.k i) = look σ (.k i) := by rw [← hT]; exact fam_out h
      rw [h3] at hb
      refine Or.inl ⟨hb, hkeep _ _ hb h (fun e1 => by cases e1; cases hl), renI_out fun hm => h (inF_k.2 hm), ?_⟩
      unfold kn; rw [hb]; rfl
  -- each stands for one of the state's
  have blkY : ∀ {i b}, T (.k i) = some (.bk b) → b.live = true → ∃ b1, look y (.k (renI y d i)) = some (.bk b1) ∧ b1.rw = b.rw ∧ b1.live = true ∧ b1.t = b.t ∧ b1.n = b.n := by
    intro i b hb hl
    rcases blkT hb hl with ⟨_, h2, h3, _⟩ | ⟨j, t, el, size, c, r, _, hr, rfl, h3, _, _⟩
    · rw [h3]; exact ⟨b, h2, rfl, hl, rfl, rfl⟩
    · obtain ⟨_, _, _, b1, k1, k2, k3, k4, k5, _, _⟩ := rowRd_at hr
      rw [h3]
      exact ⟨b1, k1, k2, k3, k4, k5⟩
  have rl : ∀ b : BI, b.rw = true → b.live = true := fun b hb => by cases b <;> first | rfl | cases hb
  have rrd : ∀ {j t el size id c : Nat} {r : RowV}, d[j]? = some (FamP.row t el size id c) → rowRd el size y t = some r → (rvV d y).n j = r.n := by
    intro j t el size id c r h1 hr
    have hrow : rvR d y j = some r := by simp only [rvR, h1, Option.bind_some, rwOf, hr]
    simp only [rvV, hrow, Option.map_some, Option.getD_some]
  have scal : ∀ {j : Nat} {p : FamP} {z : Cv} {l : Lf}, d[j]? = some p → scRd y p = some z → l.fits z = true → (∀ e' : Env, (l.cv (rvV d y).b (rvV d y).i j).den e' = z.den e') := by
    intro j p z l h1 h2 h3 e'
    refine fits_den h3 ?_ ?_ e'
    · simp only [rvV, rvB, h1, Option.bind_some, h2, Option.map_some, Option.getD_some]
    · simp only [rvV, rvI, h1, Option.bind_some, h2, Option.map_some, Option.getD_some]
  refine ⟨hR.sz, hR.df, ?_, ⟨hR.hp.new, ?_, ?_, ?_, ?_, ?_, ?_, ?_, ?_, hR.hp.fr⟩⟩
  · intro t v hv
    by_cases h : inF d (.t t)
    · obtain ⟨j, p, z, h1, h2, h3⟩ := fam_in (v := rvV d y) (s := look σ) h
      rw [hT] at h3
      have hok := itm h1
      cases p with
      | t n l =>
        simp only [FamP.at_] at h2
        split at h2
        · rename_i e1
          subst e1
          obtain rfl := Option.some.inj h2
          rw [h3] at hv
          obtain rfl : Sv.one _ = v := by simpa using hv
          simp only [okFamP] at hok
          split at hok
          · rename_i z hz
            have hl : look y (.t t) = some (.sv (.one z)) := by
              simp only [scRd] at hz
              split at hz
              · rename_i z' hz'
                obtain rfl := Option.some.inj hz
                simp only [look, hz']; rfl
              · cases hz
            obtain ⟨q1, q2, _⟩ := hR.tm t _ hl
            exact ⟨q1, q2.trans ((scal h1 hz hok _).symm.trans (by cases l <;> rfl)), l.cv_sc _ _ _ _⟩
          · cases hok
        · cases h2
      | c id off l => cases h2
      | row t' el size id c =>
        simp only [FamP.at_] at h2
        split at h2
        · rename_i e1
          subst e1
          obtain rfl := Option.some.inj h2
          rw [h3] at hv
          obtain ⟨⟨r, hr, q1, q2, _⟩, _⟩ := rowI (List.mem_of_getElem? h1)
          obtain ⟨v1, k1, k2, b1, k3, _⟩ := rowRd_at hr
          obtain ⟨p1, p2, _⟩ := hR.tm t _ k1
          obtain rfl : Sv.one (.slc id (.lit 0) (.opq ((rvV d y).n j)) (.nam c)) = v := by simpa using hv
          refine ⟨p1, p2.trans ?_, ?_, trivial, trivial, ?_⟩
          · rw [k2, rrd h1 hr]
            simp only [Sv.den, Cv.den, Sn.den, renE, Env.ad, q1, q2]
          · have : inF d (.k id) := inF_k.2 (mem_rIds (List.mem_of_getElem? h1)).1
            obtain ⟨j', p', z', g1, g2, g3⟩ := fam_in (v := rvV d y) (s := look σ) this
            unfold kn
            rw [← hT, g3]
            cases p' with
            | t n l => cases g2
            | c id off l => cases g2
            | row => simp only [FamP.at_] at g2; split at g2 <;> first | (obtain rfl := Option.some.inj g2; rfl) | cases g2
          · have : inF d (.n c) := ⟨_, List.mem_of_getElem? h1, rvV d y, 0, by simp [FamP.at_]⟩
            obtain ⟨j', p', z', g1, g2, g3⟩ := fam_in (v := rvV d y) (s := look σ) this
            show knn T c
            unfold knn
            rw [← hT, g3]
            cases p' with
            | t n l => cases g2
            | c id off l => cases g2
            | row => simp only [FamP.at_] at g2; split at g2 <;> first | (obtain rfl := Option.some.inj g2; rfl) | cases g2
        · cases h2
    · have h3 : T (.t t) = look σ (.t t) := by rw [← hT]; exact fam_out h
      rw [h3] at hv
      obtain ⟨q1, q2, _⟩ := hR.tm t v (hkeep _ _ hv h (by simp))
      have hsc := hws.tm t v hv
      exact ⟨q1, q2.trans (Sv.den_agree hA hsc).symm, hsc.sub hS⟩
  · intro id off v hv
    by_cases h : inF d (.c id off)
    · obtain ⟨j, p, z, h1, h2, h3⟩ := fam_in (v := rvV d y) (s := look σ) h
      rw [hT] at h3
      have hok := itm h1
      cases p with
      | t n l => cases h2
      | c id' off' l =>
        simp only [FamP.at_] at h2
        split at h2
        · rename_i e1
          obtain ⟨rfl, rfl⟩ := e1
          obtain rfl := Option.some.inj h2
          rw [h3] at hv
          obtain rfl : l.cv (rvV d y).b (rvV d y).i j = v := by simpa using hv
          simp only [okFamP, Bool.and_eq_true] at hok
          obtain ⟨ok1, ok2⟩ := hok
          split at ok1
          · rename_i z hz
            split at ok2
            · rename_i t0 ro0 cs0 cp0 hb0
              have hl : look y (.c id off) = some (.cv z) := by
                simp only [scRd] at hz
                obtain ⟨b, hb, hc⟩ := Option.bind_eq_some_iff.1 hz
                simp only [look, hb, Option.bind_some, hc, Option.map_some]
              obtain ⟨_, _, q3⟩ := hR.hp.cl id off z hl
              have hk : kn (look σ) id := by rw [kn_look, hb0]; rfl
              refine ⟨l.cv_sc _ _ _ _, ⟨t0, ro0, cs0.length, cp0, by rw [Tk hk]; simp only [look, hb0]; rfl, blt_iff.1 ok2⟩, ?_⟩
              rw [adk hk, q3, ← scal h1 hz ok1 e]
              cases l <;> rfl
            · cases ok2
          · cases ok1
        · cases h2
      | row t el size id' c =>
        simp only [FamP.at_] at h2
        split at h2
        · obtain rfl := Option.some.inj h2
          rw [h3] at hv; cases hv
        · cases h2
    · have h3 : T (.c id off) = look σ (.c id off) := by rw [← hT]; exact fam_out h
      rw [h3] at hv
      obtain ⟨_, _, q3⟩ := hR.hp.cl id off v (hkeep _ _ hv h (by simp))
      obtain ⟨s1, t0, ro0, n0, cp0, s2, s3⟩ := hws.cl id off v hv
      have hk : kn (look σ) id := by unfold kn; rw [s2]; rfl
      refine ⟨s1.sub hS, ⟨t0, ro0, n0, cp0, by rw [Tk hk]; exact s2, s3⟩, ?_⟩
      rw [adk hk, q3, Cv.den_agree hA s1]
  · intro i t n cp hb off ho
    rcases blkT hb rfl with ⟨_, h2, h3, h4⟩ | ⟨j, t, el, size, c, r, _, hr, h, _⟩
    · rw [adk h4]; exact hR.hp.ar i t n cp h2 off ho
    · cases h
  · intro i t ro n f cp hb off ho
    rcases blkT hb rfl with ⟨_, h2, h3, h4⟩ | ⟨j, t', el, size, c, r, _, hr, h, h3, _⟩
    · rw [adk h4]; exact hR.hp.oq i t ro n f cp h2 off ho
    · cases h
      have had : (renE y d e).ad i off = e.ad r.id off := by unfold Env.ad renE; simp only [h3]
      rw [had]
      have hcut : cutF r.m r.f off = r.f off := by unfold cutF; rw [blt_iff.2 ho]; rfl
      rw [hcut]
      obtain ⟨_, _, _, b1, k1, _, _, _, _, _, k7⟩ := rowRd_at hr
      rcases k7 with ⟨f, rfl, hf⟩ | ⟨cs, rfl, hcs, hlen, hf⟩
      · rw [hf]; exact ⟨(hR.hp.oq _ _ _ _ _ _ k1 off ho).1, fun _ => (hR.hp.oq _ _ _ _ _ _ k1 off ho).2 rfl⟩
      · have hlt : off < cs.length := by omega
        obtain ⟨z1, z2⟩ := hcs off _ (List.getElem?_eq_getElem hlt)
        refine ⟨?_, fun _ => (hR.hp.ar _ _ _ _ k1 off hlt).1⟩
        rw [(hR.hp.cl _ _ _ z1).2.2, hf]
        simp only [List.getElem?_eq_getElem hlt, Option.map_some, Option.getD_some]
        exact congrArg some (Sv.free_den (v := .one (cs[off])) z2 env0 e)
  · intro i b c es hb hc
    have hl : b.live = true := by cases b <;> first | rfl | cases hc
    rcases blkT hb hl with ⟨h1, h2, h3, h4⟩ | ⟨j, t', el, size, c', r, hj, hr, rfl, h3, h5, _⟩
    · obtain ⟨_, q2, cs, q3, q4, q5⟩ := hR.hp.cp i b c es h2 hc
      have hkc := hws.cp i b c es h1 hc
      refine ⟨hS.2 c hkc, by rw [hA.1 i h4]; exact q2, cs, by rw [hA.1 i h4]; exact q3, by rw [hA.2 c hkc]; exact q4, q5⟩
    · obtain ⟨rfl, rfl⟩ := Prod.mk.inj (Option.some.inj hc)
      obtain ⟨_, _, _, b1, k1, _, _, k4, k5, k6, _⟩ := rowRd_at hr
      obtain ⟨_, q2, cs, q3, q4, q5⟩ := hR.hp.cp _ _ _ _ k1 k6
      have hpl : (renE y d e).pl i = e.pl r.id := by show e.pl (renI y d i) = _; rw [h3]
      have hnm : (renE y d e).nm c' = e.nm r.c := by show e.nm (renC y d c') = _; rw [h5]
      refine ⟨?_, by rw [hpl]; exact q2, cs, by rw [hpl, q3, k4]; rfl, by rw [hnm]; exact q4, by show r.m ≤ cs.size; rw [← k5]; exact q5⟩
      have : inF d (.n c') := ⟨_, List.mem_of_getElem? hj, rvV d y, 0, by simp [FamP.at_]⟩
      obtain ⟨j', p', z', g1, g2, g3⟩ := fam_in (v := rvV d y) (s := look σ) this
      unfold knn
      rw [← hT, g3]
      cases p' with
      | t n l => cases g2
      | c id off l => cases g2
      | row => simp only [FamP.at_] at g2; split at g2 <;> first | (obtain rfl := Option.some.inj g2; rfl) | cases g2
  · intro i i' b b' hi hi' hr hl hne
    obtain ⟨b1, k1, k2, k3, _⟩ := blkY hi (rl b hr)
    obtain ⟨b2, m1, m2, m3, _⟩ := blkY hi' hl
    refine hR.hp.inj _ _ b1 b2 k1 m1 (k2.trans hr) m3 fun he => hne ?_
    rcases blkT hi (rl b hr) with ⟨h1, h2, h3, h4⟩ | ⟨j, t', el, size, c', r, hj, hrr, hbb, h3, h5, h6⟩
    · rcases blkT hi' hl with ⟨g1, g2, g3, g4⟩ | ⟨j2, t2, el2, size2, c2, r2, gj, grr, gbb, g3, g5, g6⟩
      · rw [h3, g3] at he; exact he
      · rw [h3, g3] at he
        rw [kn_look, he, g6] at h4; cases h4
    · rcases blkT hi' hl with ⟨g1, g2, g3, g4⟩ | ⟨j2, t2, el2, size2, c2, r2, gj, grr, gbb, g3, g5, g6⟩
      · rw [h3, g3] at he
        rw [kn_look, ← he, h6] at g4; cases g4
      · exact renI_inj o4 (mem_rIds (List.mem_of_getElem? hj)).1 (mem_rIds (List.mem_of_getElem? gj)).1 o2 he
  · intro i b hi hl
    obtain ⟨b1, k1, _, k3, _⟩ := blkY hi hl
    exact hR.hp.lt _ b1 k1 k3
  · intro i b hi hr
    obtain ⟨b1, k1, k2, _, _⟩ := blkY hi (rl b hr)
    exact hR.hp.mu _ b1 k1 (k2.trans hr)
  · refine ⟨fun id p hp => ?_, fun c m hm => ?_⟩
    · have hk := hpin.1 id p hp
      exact ⟨(hA.1 id hk).trans (hR.hp.pin.1 id p hp).1, hS.1 id hk⟩
    · have hk := hpin.2 c m hm
      exact ⟨(hA.2 c hk).trans (hR.hp.pin.2 c m hm).1, hS.2 c hk⟩
end
end Sx
end Go.Proofs.Ytgiinciclnekjaa

/-
  Loops: from the head of a loop to what stands behind it.
-/
set_option linter.unusedSimpArgs false
set_option linter.unusedVariables false
namespace Go.Proofs.Ytgiinciclnekjaa
namespace Sx
open Go.RowKit

section
variable {P : Program} {tb : Tb}
def isFgt : Wr → Bool
  | .ft _ => true
  | .new _ .gone => true
  | _ => false
theorem Rel.ft {C : Ctx} {N : Nat} {e : Env} {s : Sto} {a : Act} {w : World} (h : Rel C N e s a w) (n : Nat) : Rel C N e ((Wr.ft n).upd s) a w := by
  have hs : ∀ l, (∀ t, l ≠ .t t) → (Wr.ft n).upd s l = s l := fun l hl => by
    cases l with
    | t m => exact absurd rfl (hl m)
    | _ => rfl
  have hS : Sub s ((Wr.ft n).upd s) := ⟨fun _ h => h, fun _ h => h⟩
  refine ⟨h.sz, h.df, fun t v ht => ?_, h.hp.congr hs⟩
  by_cases e1 : t = n
  · subst e1; simp [Wr.upd, Wr.fn] at ht
  · simp only [Wr.upd, Wr.fn, if_neg e1, Option.getD_none] at ht
    obtain ⟨h1, h2, h3⟩ := h.tm t v ht
    exact ⟨h1, h2, h3.sub hS⟩
theorem fgt_rel {C : Ctx} {N : Nat} {e : Env} {a : Act} {w : World} : ∀ {fw : List Wr} {σ0 σ : St}, fw.all isFgt = true → σ0.apps fw = some σ → Rel C N e (look σ0) a w → Rel C N e (look σ) a w
  | [], σ0, σ, _, h, hR => by obtain rfl := Option.some.inj h; exact hR
  | x :: fw, σ0, σ, hf, h, hR => by
    simp only [List.all_cons, Bool.and_eq_true] at hf
    simp only [St.apps] at h
    split at h
    · rename_i hw
      refine fgt_rel hf.2 h ?_
      rw [look_app hw]
      cases x with
      | ft n => exact hR.ft n
      | new id b =>
        cases b with
        | gone => exact hR.agree (fun t => rfl) Sub.new (Agree.refl _ _) (hR.hp.gone id)
        | _ => cases hf.1
      | _ => cases hf.1
    · cases h
theorem fgt_keep : ∀ {fw : List Wr} {σ0 σ : St}, fw.all isFgt = true → σ0.apps fw = some σ → ∀ l v, look σ l = some v → v ≠ .bk .gone → look σ0 l = some v
  | [], σ0, σ, _, h, l, v, hv, _ => by obtain rfl := Option.some.inj h; exact hv
  | x :: fw, σ0, σ, hf, h, l, v, hv, hg => by
    simp only [List.all_cons, Bool.and_eq_true] at hf
    simp only [St.apps] at h
    split at h
    · rename_i hw
      have h1 := fgt_keep hf.2 h l v hv hg
      rw [look_app hw] at h1
      cases x with
      | ft n =>
        simp only [Wr.upd, Wr.fn] at h1
        cases l with
        | t m =>
          simp only [Wr.fn] at h1
          split at h1
          · cases h1
          · exact h1
        | _ => exact h1
      | new id b =>
        cases b with
        | gone =>
          cases l with
          | k i =>
            rw [gone_k] at h1
            split at h1
            · exact absurd (Option.some.inj h1).symm hg
            · exact h1
          | c i o =>
            rw [gone_c] at h1
            split at h1
            · cases h1
            · exact h1
          | _ => exact h1
        | _ => cases hf.1
      | _ => cases hf.1
    · cases h
def domT (d : List FamP) (n : Nat) : Bool := d.any fun p => match p with
  | .t m _ => Nat.beq m n
  | .row m _ _ _ _ => Nat.beq m n
  | _ => false
def domC (d : List FamP) (id off : Nat) : Bool := d.any fun p => match p with
  | .c i o _ => Nat.beq i id && Nat.beq o off
  | _ => false
def sameCv : Cv → Cv → Bool
  | .ptr i (.lit o), .ptr i' (.lit o') => Nat.beq i i' && Nat.beq o o'
  | _, _ => false
theorem sameCv_eq {c v : Cv} (h : sameCv c v = true) : v = c := by
  unfold sameCv at h
  split at h
  · simp only [Bool.and_eq_true] at h
    obtain rfl := beq_iff'.1 h.1
    obtain rfl := beq_iff'.1 h.2
    rfl
  · cases h
def sameAt (σ : St) (id off : Nat) (v : Cv) : Bool := match (alook σ.bk id).bind fun b => b.cell off with
  | some c => sameCv c v
  | none => false
theorem fns_mem {l : Loc} {z : Option LV} : ∀ {ws : List Wr}, fns ws l = some z → ∃ x ∈ ws, x.fn l = some z
  | [], h => by cases h
  | x :: ws, h => by
    simp only [fns] at h
    split at h
    · rename_i y hy
      obtain rfl := Option.some.inj h
      obtain ⟨x', h1, h2⟩ := fns_mem hy
      exact ⟨x', List.mem_cons_of_mem _ h1, h2⟩
    · exact ⟨x, List.mem_cons_self, h⟩
/-- A write that keeps what else is known. -/
def okWf (d : List FamP) (σ : St) : Wr → Bool
  | .tm n _ => domT d n || (alook σ.tm n).isNone
  | .ft n => domT d n || (alook σ.tm n).isNone
  | .cell id off v => (domC d id off || (alook σ.bk id).isNone) || sameAt σ id off v
  | .new id _ => (alook σ.bk id).isNone
  | .nm c => !memb σ.nl c
theorem domT_in {d : List FamP} {n : Nat} (h : domT d n = true) : inF d (.t n) := by
  obtain ⟨p, hp, h2⟩ := List.any_eq_true.1 h
  cases p with
  | t m l => obtain rfl := beq_iff'.1 h2; exact ⟨_, hp, ⟨fun _ => false, fun _ => 0, fun _ => 0, fun _ => 0, fun _ _ => undef⟩, 0, by simp [FamP.at_]⟩
  | c i o l => cases h2
  | row m _ _ _ _ => obtain rfl := beq_iff'.1 h2; exact ⟨_, hp, ⟨fun _ => false, fun _ => 0, fun _ => 0, fun _ => 0, fun _ _ => undef⟩, 0, by simp [FamP.at_]⟩
theorem domC_in {d : List FamP} {id off : Nat} (h : domC d id off = true) : inF d (.c id off) := by
  obtain ⟨p, hp, h2⟩ := List.any_eq_true.1 h
  cases p with
  | t m l => cases h2
  | c i o l =>
    simp only [Bool.and_eq_true] at h2
    obtain rfl := beq_iff'.1 h2.1
    obtain rfl := beq_iff'.1 h2.2
    exact ⟨_, hp, ⟨fun _ => false, fun _ => 0, fun _ => 0, fun _ => 0, fun _ _ => undef⟩, 0, by simp [FamP.at_]⟩
  | row m _ _ _ _ => cases h2
theorem keep_round {d : List FamP} {σ I y : St} {v : FVal} (hI : σ.apps (famW v 0 d) = some I) (hx : Ext I y) (ok : (newL I y).all (okWf d σ) = true) : KeepsF d σ y := by
  intro l z hz hd _
  obtain ⟨ws, hw, hl⟩ := newL_ext hx
  rw [look_apps hw, upds_fns]
  have hno : fns ws l = none ∨ fns ws l = some (some z) := by
    cases hf : fns ws l with
    | none => exact Or.inl rfl
    | some q =>
      obtain ⟨x, hx1, hx2⟩ := fns_mem hf
      have hok := List.all_eq_true.1 ok x (by rw [hl]; exact List.mem_reverse.2 hx1)
      have nT : ∀ {m}, l = .t m → domT d m = false := fun {m} e => by
        cases hc : domT d m with
        | false => rfl
        | true => exact absurd (e ▸ domT_in hc) hd
      have nC : ∀ {i o}, l = .c i o → domC d i o = false := fun {i o} e => by
        cases hc : domC d i o with
        | false => rfl
        | true => exact absurd (e ▸ domC_in hc) hd
      cases x with
      | tm n v' =>
        cases l with
        | t m =>
          obtain rfl : m = n := by simp only [Wr.fn] at hx2; split at hx2; assumption; cases hx2
          simp only [okWf, nT rfl, Bool.false_or, Option.isNone_iff_eq_none] at hok
          simp only [look, hok] at hz; cases hz
        | _ => cases hx2
      | ft n =>
        cases l with
        | t m =>
          obtain rfl : m = n := by simp only [Wr.fn] at hx2; split at hx2; assumption; cases hx2
          simp only [okWf, nT rfl, Bool.false_or, Option.isNone_iff_eq_none] at hok
          simp only [look, hok] at hz; cases hz
        | _ => cases hx2
      | cell id off v' =>
        cases l with
        | c i o =>
          obtain ⟨rfl, rfl⟩ : i = id ∧ o = off := by simp only [Wr.fn] at hx2; split at hx2; assumption; cases hx2
          simp only [okWf, nC rfl, Bool.false_or, Bool.or_eq_true, Option.isNone_iff_eq_none] at hok
          rcases hok with hok | hok
          · simp only [look, hok] at hz; cases hz
          · right
            unfold sameAt at hok
            simp only [look] at hz
            cases hb : alook σ.bk i with
            | none => rw [hb] at hz; cases hz
            | some b =>
              rw [hb] at hok hz
              simp only [Option.bind_some] at hok hz
              cases hcc : b.cell o with
              | none => rw [hcc] at hz; cases hz
              | some c =>
                rw [hcc] at hok hz
                obtain rfl := sameCv_eq hok
                simp only [Wr.fn, and_self, if_true] at hx2
                rw [← hx2, ← hz]; rfl
        | _ => cases hx2
      | new id b =>
        simp only [okWf, Option.isNone_iff_eq_none] at hok
        cases l with
        | k i =>
          obtain rfl : i = id := by simp only [Wr.fn] at hx2; split at hx2; assumption; cases hx2
          simp only [look, hok] at hz; cases hz
        | c i o =>
          obtain rfl : i = id := by simp only [Wr.fn] at hx2; split at hx2; assumption; cases hx2
          simp only [look, hok] at hz; cases hz
        | _ => cases hx2
      | nm c =>
        cases l with
        | n d' =>
          obtain rfl : d' = c := by simp only [Wr.fn] at hx2; split at hx2; assumption; cases hx2
          simp only [okWf, Bool.not_eq_true'] at hok
          simp only [look, hok] at hz; cases hz
        | _ => cases hx2
  dsimp only
  rcases hno with hno | hno
  · rw [hno, Option.getD_none, look_apps hI, fam_out hd, hz]
  · rw [hno]; rfl

/-- From the stack k and the state σ to one end. -/
structure SegOk (P : Program) (N : Nat) (σ : St) (k : List Kt) (o : Out) (x : SLeaf) : Prop where
  run : ∀ (C : Ctx) (e : Env) (a : Act) (w : World) (Q : Exit → Act → World → Prop), Rel C N e (look σ) a w → (∀ e' a' w', Rel C N e' (look x.2) a' w' → FPost P Q x.1 a' w') → Post P (fun o => kPost P Q k o) o a w
/-- From the stack k and the state σ to one of several ends. -/
structure SegTo (P : Program) (N : Nat) (σ : St) (k : List Kt) (o : Out) (Ψ : SLeaf → Prop) : Prop where
  run : ∀ (C : Ctx) (e : Env) (a : Act) (w : World) (Q : Exit → Act → World → Prop), Rel C N e (look σ) a w → (∀ y, Ψ y → ∀ e' a' w', Rel C N e' (look y.2) a' w' → FPost P Q y.1 a' w') → Post P (fun o => kPost P Q k o) o a w
theorem SegOk.to {N : Nat} {σ : St} {k : List Kt} {o : Out} {x : SLeaf} {Ψ : SLeaf → Prop} (h : SegOk P N σ k o x) (hx : Ψ x) : SegTo P N σ k o Ψ := ⟨fun C e a w Q hR hQ => h.run C e a w Q hR (hQ x hx)⟩
theorem SegOk.then_ {N : Nat} {σ σ' : St} {k k' : List Kt} {o : Out} {x : SLeaf} {Φ : SLeaf → Prop} (h : SegOk P N σ k o x) (hx : x = (.wait k', σ')) (h2 : SegTo P N σ' k' .normal Φ) : SegTo P N σ k o Φ := by
  subst hx
  exact ⟨fun C e a w Q hR hQ => h.run C e a w Q hR fun e' a' w' hR' => h2.run C e' a' w' Q hR' hQ⟩
theorem SegTo.each {N : Nat} {σ : St} {k rest : List Kt} {o : Out} {I : FVal → St} {F : FVal → Prop} {Φ : SLeaf → Prop} (h : SegTo P N σ k o fun y => ∃ v, F v ∧ y = (.wait rest, I v)) (h2 : ∀ v, F v → SegTo P N (I v) rest .normal Φ) : SegTo P N σ k o Φ :=
  ⟨fun C e a w Q hR hQ => h.run C e a w Q hR fun y hy e' a' w' hR' => by
    obtain ⟨v, hv, rfl⟩ := hy
    exact (h2 v hv).run C e' a' w' Q hR' hQ⟩
/-- THE LOOP. -/
theorem loop_to {N k : Nat} {body : Code} {rest : List Kt} (d : List FamP) {σ0 σ : St} {fw : List Wr} (hf : fw.all isFgt = true) (hσ : σ0.apps fw = some σ) (I : FVal → St) (hI : ∀ v, σ.apps (famW v 0 d) = some (I v)) (ok0 : okF d σ σ0 = true)
    (inv F : FVal → Prop) (μ : FVal → Nat) (h0 : inv (rvV d σ0))
    (hstep : ∀ v, inv v → ∃ o y, SegOk P N (I v) [.code body] .normal (.out o, y) ∧ Ext (I v) y ∧ okF d σ y = true ∧ (newL (I v) y).all (okWf d σ) = true ∧ ((o = .normal ∧ inv (rvV d y) ∧ μ (rvV d y) < μ v) ∨ (o = .exit k ∧ F (rvV d y)))) :
    SegTo P N σ0 (.again body :: .blk k :: rest) .normal (fun y => ∃ v, F v ∧ y = (.wait rest, I v)) := by
  refine ⟨fun C e a w Q hR hQ => ?_⟩
  have hRσ := fgt_rel hf hσ hR
  have hws := hRσ.ws
  have hpin : (∀ id p, C.pin id = some p → kn (look σ) id) ∧ ∀ c m, C.pinn c = some m → knn (look σ) c := ⟨fun id p h => (hRσ.hp.pin.1 id p h).2, fun c m h => (hRσ.hp.pin.2 c m h).2⟩
  have key : ∀ n v, inv v → μ v < n → ∀ e a w, Rel C N e (look (I v)) a w → LoopFrom P body (kPost P Q (.blk k :: rest)) a w := by
    intro n
    induction n with
    | zero => intro v _ h; omega
    | succ n ih =>
      intro v hi hμ e a w hR
      obtain ⟨o, y, h1, h2, h3, h4, h5⟩ := hstep v hi
      refine LoopFrom.once (h1.run C e a w (Exit.then (LoopFrom P body (kPost P Q (.blk k :: rest))) (kPost P Q (.blk k :: rest))) hR fun e' a' w' hR' => ?_)
      have hr := fam_rel hws (keep_round (hI v) h2 h4) h3 hpin hR'
      rcases h5 with ⟨rfl, k1, k2⟩ | ⟨rfl, k1⟩
      · exact ih _ k1 (by omega) _ _ _ (by rw [look_apps (hI _)]; exact hr)
      · show (if k = k then kPost P Q rest .normal a' w' else _)
        rw [if_pos rfl]
        exact hQ _ ⟨_, k1, rfl⟩ _ _ _ (by rw [look_apps (hI _)]; exact hr)
  have hr := fam_rel hws (fun l v hv _ hg => fgt_keep hf hσ l v hv hg) ok0 hpin hR
  exact key _ _ h0 (Nat.lt_succ_self _) _ _ _ (by rw [look_apps (hI _)]; exact hr)
/-- The loop, and what stands behind it. -/
theorem loop_then {N k : Nat} {body : Code} {rest : List Kt} {Φ : SLeaf → Prop} (d : List FamP) {σ : St} (I : FVal → St) (hI : ∀ v, σ.apps (famW v 0 d) = some (I v)) (ok0 : okF d σ σ = true)
    (inv F : FVal → Prop) (μ : FVal → Nat) (h0 : inv (rvV d σ))
    (hstep : ∀ v, inv v → ∃ o y, SegOk P N (I v) [.code body] .normal (.out o, y) ∧ Ext (I v) y ∧ okF d σ y = true ∧ (newL (I v) y).all (okWf d σ) = true ∧ ((o = .normal ∧ inv (rvV d y) ∧ μ (rvV d y) < μ v) ∨ (o = .exit k ∧ F (rvV d y))))
    (htail : ∀ v, F v → SegTo P N (I v) rest .normal Φ) : SegTo P N σ (.again body :: .blk k :: rest) .normal Φ :=
  (loop_to d (fw := []) rfl rfl I hI ok0 inv F μ h0 hstep).each htail
theorem seg_block {N k : Nat} {σ : St} {body : Code} {rest : List Kt} {Ψ : SLeaf → Prop} (h : SegTo P N σ (.again body :: .blk k :: rest) .normal Ψ) : SegTo P N σ (.code (.block k (.loop body)) :: rest) .normal Ψ :=
  ⟨fun C e a w Q hR hQ => wp_block (LoopFrom.wp (h.run C e a w Q hR hQ))⟩
theorem seg_peel {N : Nat} {σ σ1 : St} {body : Code} {K : List Kt} {Ψ : SLeaf → Prop} (h : SegOk P N σ [.code body] .normal (.out .normal, σ1)) (h2 : SegTo P N σ1 (.again body :: K) .normal Ψ) : SegTo P N σ (.again body :: K) .normal Ψ :=
  ⟨fun C e a w Q hR hQ => LoopFrom.once (h.run C e a w (Exit.then (LoopFrom P body (kPost P Q K)) (kPost P Q K)) hR fun e' a' w' hR' => h2.run C e' a' w' Q hR' hQ)⟩
theorem seg_out {N k : Nat} {σ σ1 : St} {body : Code} {rest : List Kt} (h : SegOk P N σ [.code body] .normal (.out (.exit k), σ1)) : SegOk P N σ (.again body :: .blk k :: rest) .normal (.wait rest, σ1) :=
  ⟨fun C e a w Q hR hQ => LoopFrom.once (h.run C e a w (Exit.then (LoopFrom P body (kPost P Q (.blk k :: rest))) (kPost P Q (.blk k :: rest))) hR fun e' a' w' hR' => by
    show (if k = k then kPost P Q rest .normal a' w' else _)
    rw [if_pos rfl]
    exact hQ e' a' w' hR')⟩
/-- A way, under cover: nothing looks into it by itself. -/
structure AtG {α : Type} (T : Tree α) (x : α) : Prop where
  out : T.At x
theorem seg_evC {wf : List FuncId} {call : CallF} (hT : TbOk P tb) (hm : P.follows .mixedOrders = true) (hc : CallFOk P call) {N fuel : Nat} {c : Code} {σ : St} {y : Leaf} {T : Tree Leaf} (hE : T = evC tb wf call N [] fuel c σ) (hA : AtG T y) : SegOk P N σ [.code c] .normal (.out y.1, y.2) ∧ Ext σ y.2 := by
  have h : (evC tb wf call N [] fuel c σ).At y := hE ▸ hA.out
  exact ⟨⟨fun C e a w Q hR hQ => evC_ok hT hm hc fuel c σ y h C e a w Q hR hQ⟩, evC_every.at_ h⟩
theorem seg_evS {wf : List FuncId} {call : CallF} (hT : TbOk P tb) (hm : P.follows .mixedOrders = true) (hc : CallFOk P call) {N cf fuel : Nat} {stops : List Nat} {k : List Kt} {o : Out} {σ : St} {y : SLeaf} {T : Tree SLeaf} (hE : T = evS tb wf call N cf stops fuel k o σ) (hA : AtG T y) : SegOk P N σ k o y ∧ Ext σ y.2 := by
  have h : (evS tb wf call N cf stops fuel k o σ).At y := hE ▸ hA.out
  exact ⟨⟨evS_ok hT hm hc fuel k o σ y h⟩, evS_every.at_ h⟩

/-! One way of a tree: the tests along it, and its end. -/
def selW {α : Type} : List Bool → Tree α → Option (List Bool × α)
  | p, .must b t => (selW p t).map fun r => (b :: r.1, r.2)
  | true :: p, .br b t _ => (selW p t).map fun r => (b :: r.1, r.2)
  | false :: p, .br b _ f => (selW p f).map fun r => ((!b) :: r.1, r.2)
  | [], .leaf x => some ([], x)
  | _, _ => none
theorem selW_at {α : Type} : ∀ {T : Tree α} {p : List Bool} {cs : List Bool} {x : α}, selW p T = some (cs, x) → (∀ c ∈ cs, c = true) → T.At x
  | .must b t, p, cs, x, h, hc => by
    have h' : (selW p t).map (fun r => (b :: r.1, r.2)) = some (cs, x) := by cases p with
      | nil => exact h
      | cons q p => cases q <;> exact h
    obtain ⟨r, hr, he⟩ := Option.map_eq_some_iff.1 h'
    obtain ⟨l, z⟩ := r
    obtain ⟨rfl, rfl⟩ := Prod.mk.inj he
    exact ⟨hc _ List.mem_cons_self, selW_at hr fun c h => hc c (List.mem_cons_of_mem _ h)⟩
  | .br b t f, p, cs, x, h, hc => by
    cases p with
    | nil => cases h
    | cons q p =>
      cases q with
      | true =>
        obtain ⟨r, hr, he⟩ := Option.map_eq_some_iff.1 (show (selW p t).map (fun r => (b :: r.1, r.2)) = some (cs, x) from h)
        obtain ⟨l, z⟩ := r
        obtain ⟨rfl, rfl⟩ := Prod.mk.inj he
        exact Or.inl ⟨hc _ List.mem_cons_self, selW_at hr fun c h => hc c (List.mem_cons_of_mem _ h)⟩
      | false =>
        obtain ⟨r, hr, he⟩ := Option.map_eq_some_iff.1 (show (selW p f).map (fun r => ((!b) :: r.1, r.2)) = some (cs, x) from h)
        obtain ⟨l, z⟩ := r
        obtain ⟨rfl, rfl⟩ := Prod.mk.inj he
        exact Or.inr ⟨by have := hc _ List.mem_cons_self; simpa using this, selW_at hr fun c h => hc c (List.mem_cons_of_mem _ h)⟩
  | .leaf y, p, cs, x, h, hc => by
    cases p with
    | nil => obtain ⟨_, rfl⟩ := Prod.mk.inj (Option.some.inj h); rfl
    | cons q p => cases q <;> cases h
  | .fail, p, cs, x, h, hc => by
    cases p with
    | nil => cases h
    | cons q p => cases q <;> cases h
theorem selW_G {α : Type} {T : Tree α} {p : List Bool} {cs : List Bool} {x : α} (h : selW p T = some (cs, x)) (hc : ∀ c ∈ cs, c = true) : AtG T x := ⟨selW_at h hc⟩
/-- A loop that is stopped at: its body, its number, what stands behind it. -/
structure Stp where
  body : Code
  k : Nat
  rest : List Kt
  st : St
def stpOf : SLeaf → Option Stp
  | (.wait (.code (.block k (.loop b)) :: rest), σ) => some ⟨b, k, rest, σ⟩
  | _ => none
theorem stpOf_at {x : SLeaf} {s : Stp} (h : stpOf x = some s) : x = (.wait (.code (.block s.k (.loop s.body)) :: s.rest), s.st) := by
  unfold stpOf at h
  split at h
  · obtain rfl := Option.some.inj h; rfl
  · cases h
/-- A way of a round that goes on, or out. -/
def wayR (d : List FamP) (σ I : St) (o : Out) (T : Tree Leaf) (p : List Bool) : Option (List Bool × St) := match selW p T with
  | some (cs, (o', y)) => match outEq o o' && (okF d σ y && (newL I y).all (okWf d σ)) with
    | true => some (cs, y)
    | false => none
  | none => none
theorem wayR_at {d : List FamP} {σ I y : St} {o : Out} {T : Tree Leaf} {p cs : List Bool} (h : wayR d σ I o T p = some (cs, y)) : ((∀ c ∈ cs, c = true) → AtG T (o, y)) ∧ okF d σ y = true ∧ (newL I y).all (okWf d σ) = true := by
  unfold wayR at h
  split at h
  · rename_i cs' o' y' hs
    split at h
    · rename_i hb
      simp only [Bool.and_eq_true] at hb
      obtain ⟨h1, h2, h3⟩ := hb
      obtain rfl := outEq_eq h1
      obtain ⟨rfl, rfl⟩ := Prod.mk.inj (Option.some.inj h)
      exact ⟨fun hc => ⟨selW_at hs hc⟩, h2, h3⟩
    · cases h
  · cases h
/-- A law, from what its code comes to. -/
theorem seg_true {f : FuncId} {fn : Func} {c : Code} (hT : TbOk P tb) (hf : P.funcs[f]? = some fn) (hb : fn.body = some c) {args : List Sv} {σ : St} {vs : List Nat} (hle : args.length ≤ fn.ntmps)
    (h : SegTo P fn.ntmps (enterSt (withVr σ vs) args) [.code c] .normal fun y => (y.1 = .out .normal ∨ y.1 = .out .ret) ∧ ∃ l, evRes tb y.2 fn.results.toList = some (.one (.b true l)))
    {e : Env} {w : World} (hp : Hp (ctx0 w) e (look σ) w) (ha : ∀ x ∈ args, x.sc (look σ)) : Calls P f (args.map (·.den e)).toArray w fun en w' => en = .returned (.bool true) ∧ Below w.heap.size w w' := by
  have hR := enter_rel (σ := withVr σ vs) (by rw [look_withVr]; exact hp) (by rw [look_withVr]; exact ha) hle
  refine calls_of_wp hf hb ?_
  refine h.run (ctx0 w) e _ w (bodyPost P fn _) hR fun y hy e' a' w' hR' => ?_
  obtain ⟨ho, l, hv⟩ := hy
  obtain ⟨r1, _⟩ := evRes_run hT hR' hv
  have hB : Below w.heap.size w w' := ⟨hR'.hp.fr.os, hR'.hp.fr.tape, hR'.hp.fr.output, hR'.hp.fr.size, fun k hk => hR'.hp.fr.block k hk (by show ¬ w.heap.size ≤ k; omega)⟩
  have hend : ∃ v', (results fn a'.tmps).run P w' = .ok v' w' ∧ Ending.returned v' = .returned (.bool true) ∧ Below w.heap.size w w' := ⟨_, r1, rfl, hB⟩
  obtain ⟨f', σ'⟩ := y
  rcases ho with ho | ho
  · simp only at ho; subst ho
    exact ⟨hR'.df, hend⟩
  · simp only at ho; subst ho
    exact ⟨hR'.df, hend⟩
/-- A row that a caller hands over: it is only read. -/
def stO (T m : Nat) (f : Nat → Value) : St := { st0 with bk := [(0, .oq T true m f none)], nx := 1 }
def envO (a : Addr) : Env := ⟨fun _ => (a.block, a.off), fun _ => 0⟩
theorem hpO {w : World} {a : Addr} {T m : Nat} {f : Nat → Value} (hb : a.block < w.heap.size) (hc : ∀ off, off < m → w.cell? ⟨a.block, a.off + off, none⟩ = some (f off)) : Hp (ctx0 w) (envO a) (look (stO T m f)) w := by
  have k0 : ∀ i b, look (stO T m f) (.k i) = some (.bk b) → i = 0 ∧ b = .oq T true m f none := by
    intro i b h
    simp only [look, stO, alook] at h
    cases hi : Nat.beq 0 i with
    | true =>
      rw [hi] at h
      exact ⟨(beq_iff'.1 hi).symm, by simpa [Blk.info] using h.symm⟩
    | false => rw [hi] at h; cases h
  refine ⟨fun _ h => h, ?_, ?_, ?_, ?_, ?_, ?_, ?_, ⟨fun _ _ h => (by cases h), fun _ _ h => (by cases h)⟩, ⟨rfl, rfl, rfl, Nat.le_refl _, fun _ _ _ => rfl⟩⟩
  · intro id off v h
    simp only [look, stO, alook] at h
    cases hi : Nat.beq 0 id with
    | true => rw [hi] at h; cases h
    | false => rw [hi] at h; cases h
  · intro id t n cp h; obtain ⟨_, h⟩ := k0 _ _ h; cases h
  · intro id t ro n g cp h off ho
    obtain ⟨rfl, h⟩ := k0 _ _ h
    cases h
    exact ⟨hc off ho, fun h => by cases h⟩
  · intro id b c es h hcp; obtain ⟨_, rfl⟩ := k0 _ _ h; cases hcp
  · intro i i' b b' h _ hr; obtain ⟨_, rfl⟩ := k0 _ _ h; cases hr
  · intro i b h _; exact hb
  · intro i b h hr; obtain ⟨_, rfl⟩ := k0 _ _ h; cases hr
theorem rvV_i (d : List FamP) (y : St) (j : Nat) : (rvV d y).i j = rvI d y j := rfl
theorem rvV_b (d : List FamP) (y : St) (j : Nat) : (rvV d y).b j = rvB d y j := rfl
theorem apps_nil (σ : St) : σ.apps [] = some σ := rfl
theorem famW_same {v v' : FVal} : ∀ {d : List FamP} {j : Nat}, (∀ (i : Nat) (p : FamP), d[i]? = some p → p.ws v (j + i) = p.ws v' (j + i)) → famW v j d = famW v' j d
  | [], _, _ => rfl
  | p :: d, j, h => by
    have h0 := h 0 p rfl
    rw [Nat.add_zero] at h0
    have h1 := famW_same (v := v) (v' := v') (d := d) (j := j + 1) fun i q hq => by
      have := h (i + 1) q (by simpa using hq)
      rwa [show j + (i + 1) = j + 1 + i by omega] at this
    rw [famW, famW, h0, h1]
end
end Sx
end Go.Proofs.Ytgiinciclnekjaa

/-
  The law ProtectDead: up to its loop, and a round.
-/
set_option linter.unusedSimpArgs false
set_option linter.unusedVariables false
namespace Go.Proofs.Ytgiinciclnekjaa
open Sx Go.RowKit
set_option maxRecDepth 100000
/-- The rules: Step as well. -/
noncomputable def spS : FuncId → Option (List Sv → St → Tree FLeaf) := fun f => match Nat.beq f 20 with
  | true => some stR
  | false => spOr (spTrue 16) spP f
theorem spS_ok : SpOk Try.prog spS := by
  intro f g hf args σ y hy
  unfold spS at hf
  split at hf
  · rename_i h1
    obtain rfl := beq_iff'.1 h1
    obtain rfl := Option.some.inj hf
    exact stR_ok hy
  · exact spOr_ok (spTrue_ok works5_any) spP_ok f g hf args σ y hy
noncomputable def caS : CallF := evFn tbl wr5 spS 300 12
theorem caS_ok : CallFOk Try.prog caS := evFn_ok tbl_ok tbl_any spS_ok 12
/-- A function's code, and how many slots it has. -/
noncomputable def fnOf (f : Nat) : Func := (alook tbl.fn f).getD default
noncomputable def cdOf (f : Nat) : Code := (fnOf f).body.getD .skip
/-- Up to the stops. -/
noncomputable def upT (stops : List Nat) (f : Nat) (args : List Sv) (σ : St) : Tree SLeaf := evS tbl wr5 caS (fnOf f).ntmps 300 stops 300 [.code (cdOf f)] .normal (enterSt (withVr σ (evVr wr5 f 300 (fnOf f))) args)
noncomputable def ddT (n : Nat → Int) (len cap : Nat) (f : Nat → Value) : Tree SLeaf := upT [0] 3 [.agg (symL (fun _ => false) n 0 lsG), .one (.slc 0 (.lit 0) (.opq len) (.opq cap))] (stO 44 (len * 31) f)
/-- Where the loop is stopped at. -/
noncomputable def stp0 : Stp := ⟨.skip, 0, [], st0⟩
noncomputable def ddS (n : Nat → Int) (len cap : Nat) (f : Nat → Value) : Stp := (((selW [false, false] (ddT n len cap f)).map (·.2)).bind stpOf).getD stp0
noncomputable def ddK (n : Nat → Int) (len cap : Nat) (f : Nat → Value) : List Kt := (ddS n len cap f).rest
/-- What changes from round to round: the index, the machine's cells. -/
def cellsD (id : Nat) : Nat → List Lf → List FamP
  | _, [] => []
  | o, l :: ls => .c id o l :: cellsD id (o + 1) ls
def ddD : List FamP := .t 7 (.i .i64) :: cellsD 3 1 lsP
noncomputable def ddI (n : Nat → Int) (len cap : Nat) (f : Nat → Value) (v : FVal) : St := ((ddS n len cap f).st.apps (famW v 0 ddD)).getD st0
noncomputable def ddR (n : Nat → Int) (len cap : Nat) (f : Nat → Value) (v : FVal) : Tree Leaf := evC tbl wr5 caS (fnOf 3).ntmps [] 300 (ddS n len cap f).body (ddI n len cap f v)
end Go.Proofs.Ytgiinciclnekjaa
