/-
  The rule of a machine's step: what it leaves is named by its own evaluation.
-/
import Derived.Test.YtgiinciclnekjaaG20Welds
import Derived.Test.YtgiinciclnekjaaG21Welds
import Derived.Test.YtgiinciclnekjaaG22Welds
import Derived.Test.YtgiinciclnekjaaG23Welds
import Derived.Test.YtgiinciclnekjaaG24Welds
import Derived.Test.YtgiinciclnekjaaG25Welds
import Derived.Test.YtgiinciclnekjaaG4Welds
import Derived.Test.YtgiinciclnekjaaG5Welds
import Derived.KernelRfl
set_option linter.unusedSimpArgs false
set_option linter.unusedVariables false
namespace Go.Proofs.Ytgiinciclnekjaa
open Sx Go.RowKit
set_option maxRecDepth 100000

/-- The cells behind the guard; the act; the error. -/
def stC (T : Tree FLeaf) : List Cv := match peelF T with
  | some (_, (_, σ)) => match alook σ.bk 1 with
    | some (.ar _ _ (_ :: cs) _) => cs
    | _ => []
  | none => []
def stA (T : Tree FLeaf) : List Cv := match peelF T with
  | some (_, (.tup [(_, ac), _], _)) => ac
  | _ => []
def stE (T : Tree FLeaf) : Int := match peelF T with
  | some (_, (.tup [_, (_, [.i _ e _])], _)) => e
  | _ => 0
def pick6 {α : Type} (p : Int) (g : Int → α) : α :=
  bif decide (p = 5) then g 5 else bif decide (p = 4) then g 4 else bif decide (p = 3) then g 3 else bif decide (p = 2) then g 2 else bif decide (p = 1) then g 1 else g 0
noncomputable def nwI (j : Nat) (p : Int) (n : Nat → Int) (b : Nat → Bool) (m : Nat → Int) (h : Nat → Bool) (s : Nat → Int) : Int := pick6 p fun k => nOf (stC (stT k n b m h s)) j
noncomputable def nwB (j : Nat) (p : Int) (n : Nat → Int) (b : Nat → Bool) (m : Nat → Int) (h : Nat → Bool) (s : Nat → Int) : Bool := pick6 p fun k => bOf (stC (stT k n b m h s)) j
noncomputable def acB (j : Nat) (p : Int) (n : Nat → Int) (b : Nat → Bool) (m : Nat → Int) (h : Nat → Bool) (s : Nat → Int) : Bool := pick6 p fun k => bOf (stA (stT k n b m h s)) j
noncomputable def erI (p : Int) (n : Nat → Int) (b : Nat → Bool) (m : Nat → Int) (h : Nat → Bool) (s : Nat → Int) : Int := pick6 p fun k => stE (stT k n b m h s)
def ls4 : List Lf := [.b, .b, .b, .b]
/-- The phase and what stands behind it. -/
def lsP : List Lf := .i .i64 :: lsM
noncomputable def nwV (p : Int) (n : Nat → Int) (b : Nat → Bool) (m : Nat → Int) (h : Nat → Bool) (s : Nat → Int) : Sv := .tup [(true, symL (fun j => acB j p n b m h s) (fun _ => 0) 0 ls4), (false, [.i .i64 (erI p n b m h s) false])]
noncomputable def nwC (p : Int) (n : Nat → Int) (b : Nat → Bool) (m : Nat → Int) (h : Nat → Bool) (s : Nat → Int) : List Cv := symL (fun j => nwB j p n b m h s) (fun j => nwI j p n b m h s) 0 lsP
theorem st_ok (k : Nat) (hk : k < 6) (n : Nat → Int) (b : Nat → Bool) (m : Nat → Int) (h : Nat → Bool) (s : Nat → Int) : okS (stT k n b m h s) = true := by
  match k, hk with
  | 0, _ => exact st_ok0 n b m h s
  | 1, _ => exact st_ok1 n b m h s
  | 2, _ => exact st_ok2 n b m h s
  | 3, _ => exact st_ok3 n b m h s
  | 4, _ => exact st_ok4 n b m h s
  | 5, _ => exact st_ok5 n b m h s
theorem pick6_at {α : Type} {k : Nat} (hk : k < 6) (g : Int → α) : pick6 (k : Int) g = g k := by
  match k, hk with
  | 0, _ => rfl
  | 1, _ => rfl
  | 2, _ => rfl
  | 3, _ => rfl
  | 4, _ => rfl
  | 5, _ => rfl
/-- A way, under cover: nothing looks into it by itself. -/
structure AtH (T : Tree FLeaf) (y : FLeaf) : Prop where
  out : T.At y
/-- What is checked of a step says what it leaves. -/
theorem okS_at {T : Tree FLeaf} (h : okS T = true) : ∃ (ac : List Cv) (er : Int) (fl : Bool) (σ : St) (ph : Int) (fp : Bool) (cs : List Cv), AtH T (.tup [(true, ac), (false, [.i .i64 er fl])], σ) ∧ alook σ.bk 1 = some (.ar 95 false (.ptr 0 (.lit 0) :: .i .i64 ph fp :: cs) none) ∧
    isL ls4 ac = true ∧ isL lsM cs = true ∧ stC T = .i .i64 ph fp :: cs ∧ stA T = ac ∧ stE T = er := by
  unfold okS at h
  split at h
  · rename_i ac er fl σ hp
    obtain ⟨h1, h2⟩ := Bool.and_eq_true_iff.1 h
    split at h2
    · rename_i t ph fp cs hb
      obtain ⟨h3, h4⟩ := Bool.and_eq_true_iff.1 h2
      obtain rfl := beq_iff'.1 h3
      refine ⟨ac, er, fl, σ, ph, fp, cs, ⟨peelF_at hp (fun b hb => by cases hb)⟩, hb, h1, h4, ?_, ?_, ?_⟩
      · unfold stC; rw [hp]; simp only [hb]
      · unfold stA; rw [hp]
      · unfold stE; rw [hp]
    · cases h2
  · cases h
/-- The rule. -/
noncomputable def stR : List Sv → St → Tree FLeaf
  | [.one (.ptr id (.lit 0)), .agg sg], σ => match alook σ.bk id with
    | some (.ar t false (.ptr gid (.lit 0) :: .i .i64 p l :: cs) none) => match alook σ.bk gid with
      | some (.ar t' _ gs _) => match Nat.beq t 95 && Nat.beq t' 25 && isL lsM cs && isL lsG gs && isL lsS sg && !Nat.beq id gid with
        | true => mustL l (decide (0 ≤ p ∧ p < 6)) (.leaf (nwV p (nOf gs) (bOf cs) (nOf cs) (bOf sg) (nOf sg), putC σ id (.ptr gid (.lit 0) :: nwC p (nOf gs) (bOf cs) (nOf cs) (bOf sg) (nOf sg))))
        | false => .fail
      | _ => .fail
    | _ => .fail
  | _, _ => .fail
theorem symL_in (bs : Nat → Bool) (ns : Nat → Int) (K : List Nat) : ∀ (ls : List Lf) (j : Nat), (symL bs ns j ls).all (Cv.inB K []) = true
  | [], _ => rfl
  | l :: ls, j => by
    rw [symL, List.all_cons, symL_in bs ns K ls (j + 1), Bool.and_true]
    cases l <;> rfl
theorem isL_in {K : List Nat} : ∀ {ls : List Lf} {cs : List Cv}, isL ls cs = true → cs.all (Cv.inB K []) = true
  | [], [], _ => rfl
  | [], _ :: _, h => by cases h
  | .b :: _, [], h => by cases h
  | .i _ :: _, [], h => by cases h
  | .b :: ls, c :: cs, h => by
    cases c with
    | b v fl => rw [List.all_cons, isL_in (show isL ls cs = true from h)]; rfl
    | _ => cases h
  | .i k :: ls, c :: cs, h => by
    cases c with
    | i k' v fl => rw [List.all_cons, isL_in (Bool.and_eq_true_iff.1 h).2]; rfl
    | _ => cases h
theorem isL_ren {ρ : Nat → Nat} : ∀ {ls : List Lf} {cs : List Cv}, isL ls cs = true → cs.map (Cv.ren ρ) = cs
  | [], [], _ => rfl
  | [], _ :: _, h => by cases h
  | .b :: _, [], h => by cases h
  | .i _ :: _, [], h => by cases h
  | .b :: ls, c :: cs, h => by
    cases c with
    | b v fl => rw [List.map_cons, isL_ren (show isL ls cs = true from h)]; rfl
    | _ => cases h
  | .i k :: ls, c :: cs, h => by
    cases c with
    | i k' v fl => rw [List.map_cons, isL_ren (Bool.and_eq_true_iff.1 h).2]; rfl
    | _ => cases h
theorem stT_eq (k : Int) (n : Nat → Int) (b : Nat → Bool) (m : Nat → Int) (h : Nat → Bool) (s : Nat → Int) : stT k n b m h s = evFn tbl wr5 spP 300 12 20 [.one (.ptr 1 (.lit 0)), .agg (symL h s 0 lsS)] (stM k n b m) := by
  unfold stT
  rfl
theorem evFn_hid {T : Tree FLeaf} {f : FuncId} {args : List Sv} {σ : St} {y : FLeaf} (hT : T = evFn tbl wr5 spP 300 12 f args σ) (hy : AtH T y) : FunOk Try.prog f args σ y.1 y.2 := by
  subst hT
  exact evFn_at tbl_ok tbl_any spP_ok hy.out
theorem stT_fun {k : Int} {n : Nat → Int} {b : Nat → Bool} {m : Nat → Int} {h : Nat → Bool} {s : Nat → Int} {y : FLeaf} (hy : AtH (stT k n b m h s) y) : FunOk Try.prog 20 [.one (.ptr 1 (.lit 0)), .agg (symL h s 0 lsS)] (stM k n b m) y.1 y.2 :=
  evFn_hid (stT_eq k n b m h s) hy
set_option maxHeartbeats 1000000 in
theorem stR_ok {args : List Sv} {σ : St} {y : FLeaf} (hy : (stR args σ).At y) : FunOk Try.prog 20 args σ y.1 y.2 := by
  unfold stR at hy
  split at hy
  · rename_i σ id sg
    split at hy
    · rename_i t gid p l cs hb
      split at hy
      · rename_i t' ro' gs cp' hg
        split at hy
        · rename_i hL
          simp only [Bool.and_eq_true, Bool.not_eq_true'] at hL
          obtain ⟨⟨⟨⟨⟨h1, h2⟩, h3⟩, h4⟩, h5⟩, h6⟩ := hL
          obtain rfl := beq_iff'.1 h1
          obtain rfl := beq_iff'.1 h2
          have hne : id ≠ gid := beq_ff.1 h6
          obtain ⟨hq, hy2⟩ := mustL_at' hy
          obtain rfl : _ = y := hy2
          have hq' : 0 ≤ p ∧ p < 6 := by simpa using hq
          obtain ⟨k, rfl⟩ := Int.eq_ofNat_of_zero_le hq'.1
          have hk : k < 6 := by omega
          obtain ⟨ac, er, fl, σ', ph, fp, cs', g1, g2, g3, g4, g5, g6, g7⟩ := okS_at (st_ok k hk (nOf gs) (bOf cs) (nOf cs) (bOf sg) (nOf sg))
          have eA : (fun j => acB j (k : Int) (nOf gs) (bOf cs) (nOf cs) (bOf sg) (nOf sg)) = bOf ac := by funext j; unfold acB; rw [pick6_at hk, g6]
          have eE : erI (k : Int) (nOf gs) (bOf cs) (nOf cs) (bOf sg) (nOf sg) = er := by unfold erI; rw [pick6_at hk, g7]
          have eB : (fun j => nwB j (k : Int) (nOf gs) (bOf cs) (nOf cs) (bOf sg) (nOf sg)) = bOf (.i .i64 ph fp :: cs') := by funext j; unfold nwB; rw [pick6_at hk, g5]
          have eI : (fun j => nwI j (k : Int) (nOf gs) (bOf cs) (nOf cs) (bOf sg) (nOf sg)) = nOf (.i .i64 ph fp :: cs') := by funext j; unfold nwI; rw [pick6_at hk, g5]
          have eC : nwC (k : Int) (nOf gs) (bOf cs) (nOf cs) (bOf sg) (nOf sg) = symL (bOf (.i .i64 ph fp :: cs')) (nOf (.i .i64 ph fp :: cs')) 0 lsP := by unfold nwC; rw [eB, eI]
          have eV : nwV (k : Int) (nOf gs) (bOf cs) (nOf cs) (bOf sg) (nOf sg) = .tup [(true, symL (bOf ac) (fun _ => 0) 0 ls4), (false, [.i .i64 er false])] := by unfold nwV; rw [eA, eE]
          have hPL : isL lsP (.i .i64 ph fp :: cs') = true := by
            show (decide (IntKind.i64 = IntKind.i64) && isL lsM cs') = true
            rw [g4]; rfl
          rw [eV, eC]
          have f0 := stT_fun g1
          clear g1
          have f1 := f0.val (u := .tup [(true, symL (bOf ac) (fun _ => 0) 0 ls4), (false, [.i .i64 er false])]) (fun e => by
            have := canon_den g3 e e
            have e2 : densA e ac = densA e (symL (bOf ac) (fun _ => 0) 0 ls4) := by
              have h9 : Value.agg (densA e ac) = Value.agg (densA e (canon ls4 ac)) := this
              injection h9
            show Value.tuple #[Value.agg (densA e ac), Value.int .i64 er] = Value.tuple #[Value.agg (densA e (symL (bOf ac) (fun _ => 0) 0 ls4)), Value.int .i64 er]
            rw [e2]) rfl
          have f2 := FunOk.renW (args := [.one (.ptr id (.lit 0)), .agg sg]) f1 hb hg hne (same_cons (fun e => rfl) (same_cons (fun e => rfl) (same_isL h3))) (same_isL h4)
            (by rw [List.all_cons, List.all_cons, symL_in]; rfl) (symL_in _ _ _ _ _) g2 (by simp [isL_len g4, symL_len]) (by rw [List.all_cons, List.all_cons, isL_in g4]; rfl)
            (fun e => by
              have e1 := canon_den h5 e (e.ren (rho id gid))
              show [_, (Sv.agg sg).den e] = [_, (Sv.agg (symL (bOf sg) (nOf sg) 0 lsS)).den (e.ren (rho id gid))]
              rw [e1]; rfl)
            (fun x hx => by
              simp only [List.mem_cons, List.not_mem_nil, or_false] at hx
              rcases hx with rfl | rfl
              · exact ⟨rfl, trivial⟩
              · exact Sv.free_sc (show (Sv.agg _).freeB = true from symL_free _ _ _ _) _) rfl
          have lenP : (symL (bOf (.i .i64 ph fp :: cs')) (nOf (.i .i64 ph fp :: cs')) 0 lsP).length = cs'.length + 1 := by rw [symL_len, ← isL_len hPL]; rfl
          refine f2.cells hb (by simp [lenP]) (by simp [lenP, isL_len g4, isL_len h3]) (fun e j => ?_) (fun c hc s hs => ?_) rfl
          · cases j with
            | zero => rfl
            | succ j =>
              have h7 := isL_den (c0 := .i .i64 ph fp :: cs') hPL (fun i => by rw [Nat.zero_add]) e e j
              have h8 : (Cv.i .i64 ph fp :: cs').map (Cv.ren (rho id gid)) = .i .i64 ph fp :: cs' := isL_ren hPL
              rw [List.map_cons, h8, List.getElem?_cons_succ, List.getElem?_cons_succ]
              exact h7.symm
          · cases hc with
            | head => exact ⟨hs gid (by rw [kn_look, hg]; rfl), trivial⟩
            | tail _ hc => exact Cv.free_sc (List.all_eq_true.1 (symL_free _ _ _ _) c hc) s
        · exact hy.elim
      · exact hy.elim
    · exact hy.elim
  · exact hy.elim
end Go.Proofs.Ytgiinciclnekjaa

/-
  The laws of a machine's step: what is to be shown.
-/
set_option linter.unusedSimpArgs false
set_option linter.unusedVariables false
namespace Go.Proofs.Ytgiinciclnekjaa
open Sx Go.RowKit
def qnt (x : Int) : Bool := bif decide (x ≥ -1099511627776) then decide (x ≤ 1099511627776) else false
/-- The signals are refused. -/
def eS (s : Nat → Int) : Bool := bif !qnt (s 27) then true else !qnt (s 28)
def awN (n : Nat → Int) (b : Nat → Bool) (m : Nat → Int) (h : Nat → Bool) (s : Nat → Int) (i : Nat) : Int := bif apP n h s (fun i => b (1 + i)) i then IntKind.i64.wrap (m (11 + i) + 1) else 0
/-- A channel's mark behind a step. -/
def bdN (n : Nat → Int) (b : Nat → Bool) (m : Nat → Int) (h : Nat → Bool) (s : Nat → Int) (i : Nat) : Bool := bif eS s then b (1 + i) else bif b (1 + i) then true else decide (awN n b m h s i ≥ n 17)
theorem bdN_stays {n : Nat → Int} {b : Nat → Bool} {m : Nat → Int} {h : Nat → Bool} {s : Nat → Int} {i : Nat} (hb : b (1 + i) = true) : bdN n b m h s i = true := by
  unfold bdN
  rw [hb]
  cases eS s <;> rfl
def bd3 (T : Tree FLeaf) : Bool × Bool × Bool := (bOf (stC T) 2, bOf (stC T) 3, bOf (stC T) 4)
end Go.Proofs.Ytgiinciclnekjaa

/-
  The law ProtectDead: up to its loop, and a round.
-/
set_option linter.unusedSimpArgs false
set_option linter.unusedVariables false
namespace Go.Proofs.Ytgiinciclnekjaa
open Sx Go.RowKit
set_option maxRecDepth 100000
/-- The rules: Step as well. -/
noncomputable def spS : FuncId → Option (List Sv → St → Tree FLeaf) := fun f => match Nat.beq f 20 with
  | true => some stR
  | false => spOr (spTrue 16) spP f
theorem spS_ok : SpOk Try.prog spS := by
  intro f g hf args σ y hy
  unfold spS at hf
  split at hf
  · rename_i h1
    obtain rfl := beq_iff'.1 h1
    obtain rfl := Option.some.inj hf
    exact stR_ok hy
  · exact spOr_ok (spTrue_ok works5_any) spP_ok f g hf args σ y hy
noncomputable def caS : CallF := evFn tbl wr5 spS 300 12
theorem caS_ok : CallFOk Try.prog caS := evFn_ok tbl_ok tbl_any spS_ok 12
/-- A function's code, and how many slots it has. -/
noncomputable def fnOf (f : Nat) : Func := (alook tbl.fn f).getD default
noncomputable def cdOf (f : Nat) : Code := (fnOf f).body.getD .skip
/-- Up to the stops. -/
noncomputable def upT (stops : List Nat) (f : Nat) (args : List Sv) (σ : St) : Tree SLeaf := evS tbl wr5 caS (fnOf f).ntmps 300 stops 300 [.code (cdOf f)] .normal (enterSt (withVr σ (evVr wr5 f 300 (fnOf f))) args)
noncomputable def ddT (n : Nat → Int) (len cap : Nat) (f : Nat → Value) : Tree SLeaf := upT [0] 3 [.agg (symL (fun _ => false) n 0 lsG), .one (.slc 0 (.lit 0) (.opq len) (.opq cap))] (stO 44 (len * 31) f)
/-- Where the loop is stopped at. -/
noncomputable def stp0 : Stp := ⟨.skip, 0, [], st0⟩
noncomputable def ddS (n : Nat → Int) (len cap : Nat) (f : Nat → Value) : Stp := (((selW [false, false] (ddT n len cap f)).map (·.2)).bind stpOf).getD stp0
noncomputable def ddK (n : Nat → Int) (len cap : Nat) (f : Nat → Value) : List Kt := (ddS n len cap f).rest
/-- What changes from round to round: the index, the machine's cells. -/
def cellsD (id : Nat) : Nat → List Lf → List FamP
  | _, [] => []
  | o, l :: ls => .c id o l :: cellsD id (o + 1) ls
def ddD : List FamP := .t 7 (.i .i64) :: cellsD 3 1 lsP
noncomputable def ddI (n : Nat → Int) (len cap : Nat) (f : Nat → Value) (v : FVal) : St := ((ddS n len cap f).st.apps (famW v 0 ddD)).getD st0
noncomputable def ddR (n : Nat → Int) (len cap : Nat) (f : Nat → Value) (v : FVal) : Tree Leaf := evC tbl wr5 caS (fnOf 3).ntmps [] 300 (ddS n len cap f).body (ddI n len cap f v)
end Go.Proofs.Ytgiinciclnekjaa

/-
  A plant's cells; what a move leaves, for lags of at most 5.
-/
set_option linter.unusedSimpArgs false
set_option linter.unusedVariables false
namespace Go.Proofs.Ytgiinciclnekjaa
open Sx Go.RowKit
set_option maxRecDepth 100000
def Cv.strip : Cv → Cv
  | .b v _ => .b v false
  | .i k n _ => .i k n false
  | c => c
theorem Cv.strip_den (c : Cv) (e : Env) : (Cv.strip c).den e = c.den e := by cases c <;> rfl
/-- The cells of a plant: whether it is made, whether the fuse is fired, the ring, where it stands, the lag, what is welded, stuck, shut, mute, lies; what is not looked at. -/
def plC (b : Nat → Bool) (l a : Int) (fl : Bool) (u : List Cv) : List Cv := .b true true :: .b (b 1) false :: ((List.range 63).map (fun j => Cv.b (b (2 + j)) false) ++ (.i .i64 a fl :: .i .i64 l fl :: ((List.range 15).map (fun j => Cv.b (b (67 + j)) false) ++ u)))
def plH (b : Nat → Bool) (l a : Int) (fl : Bool) : List Cv := .b true true :: .b (b 1) false :: ((List.range 63).map (fun j => Cv.b (b (2 + j)) false) ++ (.i .i64 a fl :: .i .i64 l fl :: (List.range 15).map (fun j => Cv.b (b (67 + j)) false)))
theorem plC_app (b : Nat → Bool) (l a : Int) (fl : Bool) (u : List Cv) : plC b l a fl u = plH b l a fl ++ u := by
  unfold plC plH
  simp only [List.cons_append, List.append_assoc]
theorem plH_len (b : Nat → Bool) (l a : Int) (fl : Bool) : (plH b l a fl).length = 82 := by
  unfold plH
  simp
theorem plH_free (b : Nat → Bool) (l a : Int) (fl : Bool) : (plH b l a fl).all Cv.freeB = true := by
  unfold plH
  simp [Cv.freeB]
/-- The ring, when drive d has been written at place a. -/
def rgN (b d : Nat → Bool) (a : Int) (o : Nat) : Bool := bif decide (((o / 3 : Nat) : Int) = a) then d (o % 3) else b (2 + o)
def atN (l a : Int) : Int := (a + 1).tmod (l + 1)
def olN (b d : Nat → Bool) (l a : Int) (j : Nat) : Bool := rgN b d a (3 * (atN l a).toNat + j)
def shN (b d : Nat → Bool) (l a : Int) (j : Nat) : Bool := bif !b (70 + j) then (bif olN b d l a j then true else bif b (67 + j) then b (73 + j) else false) else false
def mvB (b d : Nat → Bool) (l a : Int) (j : Nat) : Bool := bif Nat.beq j 1 then (bif b 1 then true else d 3) else bif Nat.ble j 64 then rgN b d a (j - 2) else bif Nat.ble j 72 then b j else bif Nat.ble j 75 then shN b d l a (j - 73) else b j
def mvF (b d : Nat → Bool) (l a : Int) (fl : Bool) (u : List Cv) : List Cv := plC (mvB b d l a) l (atN l a) fl u
def unk (u : Nat → Value) : List Cv := [.val (u 0), .val (u 1), .val (u 2), .val (u 3), .val (u 4), .val (u 5)]
noncomputable def mvT (b d : Nat → Bool) (l a : Int) (u : Nat → Value) : Tree FLeaf := evFn tbl wr5 (fun _ => none) 300 12 36 [.one (.ptr 1 (.lit 0)), .agg (symL d (fun _ => 0) 0 ls4)] (st1 107 (plC b l a true (unk u)))
/-- What it leaves. -/
def mvO (T : Tree FLeaf) : Option (List Cv) := match peelF T with
  | some ([], (.one (.i .i64 0 true), σ)) => match alook σ.bk 1 with
    | some (.ar t false cs none) => match Nat.beq t 107 && cs.all Cv.freeB with
      | true => some (cs.map Cv.strip)
      | false => none
    | _ => none
  | _ => none
end Go.Proofs.Ytgiinciclnekjaa
