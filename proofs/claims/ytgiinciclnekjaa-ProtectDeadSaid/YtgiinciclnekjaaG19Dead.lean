/-
  Rules: holds, current and apart of a panel, holds and apart of the reference.
-/
import Derived.Test.YtgiinciclnekjaaG13Dead
import Derived.Test.YtgiinciclnekjaaG14Dead
import Derived.Test.YtgiinciclnekjaaG18Dead
import Derived.Test.YtgiinciclnekjaaG15Dead
set_option linter.unusedSimpArgs false
set_option linter.unusedVariables false
namespace Go.Proofs.Ytgiinciclnekjaa
open Sx Go.RowKit
set_option maxRecDepth 100000
def panT (V : (Nat → Int) → (Nat → Bool) → (Nat → Int) → Vv) : List Sv → St → Tree FLeaf
  | [.one (.ptr id (.lit 0))], σ => match alook σ.bk id with
    | some (.ar t _ (.ptr gid (.lit 0) :: cs) _) => match alook σ.bk gid with
      | some (.ar t' _ gs _) => match Nat.beq t 145 && Nat.beq t' 25 && isL (lsL ++ lsB) cs && isL lsG gs with
        | true => .leaf ((V (nOf gs) (bOf cs) (nOf cs)).sv, σ)
        | false => .fail
      | _ => .fail
    | _ => .fail
  | _, _ => .fail
theorem panT_ok {f : FuncId} {V : (Nat → Int) → (Nat → Bool) → (Nat → Int) → Vv} (hF : ∀ n b m, ∃ σ', FunOk Try.prog f [.one (.ptr 1 (.lit 0))] (stP n b m) (V n b m).sv σ') {args : List Sv} {σ : St} {y : FLeaf} (h : (panT V args σ).At y) : FunOk Try.prog f args σ y.1 y.2 := by
  unfold panT at h
  split at h
  · rename_i σ id
    split at h
    · rename_i t ro gid cs cp hb
      split at h
      · rename_i t' ro' gs cp' hg
        split at h
        · rename_i hL
          simp only [Bool.and_eq_true] at hL
          obtain ⟨⟨⟨h1, h2⟩, h3⟩, h4⟩ := hL
          obtain rfl := beq_iff'.1 h1
          obtain rfl := beq_iff'.1 h2
          obtain rfl : _ = y := h
          obtain ⟨σ', hF'⟩ := hF (nOf gs) (bOf cs) (nOf cs)
          refine FunOk.ren (ρ := fun i => if i = 1 then id else gid) hF' ?_ rfl (fun e => rfl) (fun x hx => ?_) (Vv.sv_free _)
          · exact ⟨⟨_, _, _, _, _, rfl, hb, same_cons (fun e => rfl) (same_isL h3)⟩, ⟨_, _, _, _, _, rfl, hg, same_isL h4⟩, trivial⟩
          · simp only [List.mem_cons, List.not_mem_nil, or_false] at hx
            subst hx
            exact ⟨rfl, trivial⟩
        · exact h.elim
      · exact h.elim
    · exact h.elim
  · exact h.elim
def refT (V : (Nat → Int) → (Nat → Bool) → (Nat → Int) → (Nat → Bool) → Vv) : List Sv → Option Sv
  | [.agg gs, .agg cs, .agg bs] => match isL lsG gs && isL lsL cs && isL lsB bs with
    | true => some (V (nOf gs) (bOf cs) (nOf cs) (bOf bs)).sv
    | false => none
  | _ => none
theorem glb_free (n : Nat → Int) (b : Nat → Bool) (m : Nat → Int) (c : Nat → Bool) (z : Nat → Int) : ∀ x ∈ ([.agg (symL (fun _ => false) n 0 lsG), .agg (symL b m 0 lsL), .agg (symL c z 0 lsB)] : List Sv), x.freeB = true := fun x hx => by
  simp only [List.mem_cons, List.not_mem_nil, or_false] at hx
  rcases hx with rfl | rfl | rfl <;> exact symL_free _ _ _ _
theorem refT_ok {f : FuncId} {V : (Nat → Int) → (Nat → Bool) → (Nat → Int) → (Nat → Bool) → Vv} (h : ∀ n b m c z (w : World), Calls Try.prog f (([.agg (symL (fun _ => false) n 0 lsG), .agg (symL b m 0 lsL), .agg (symL c z 0 lsB)] : List Sv).map (·.den env0)).toArray w fun en w' => en = .returned ((V n b m c).sv.den env0) ∧ Below w.heap.size w w') : RuleOk Try.prog f (refT V) := by
  intro args v hv
  unfold refT at hv
  split at hv
  · rename_i gs cs bs
    split at hv
    · rename_i hL
      simp only [Bool.and_eq_true] at hL
      obtain ⟨⟨h1, h2⟩, h3⟩ := hL
      obtain rfl := Option.some.inj hv
      refine ⟨Vv.sv_free _, fun e w => ?_⟩
      have := h (nOf gs) (bOf cs) (nOf cs) (bOf bs) (nOf bs) w
      have e1 : (Sv.agg gs).den e = (Sv.agg (symL (fun _ => false) (nOf gs) 0 lsG)).den env0 := canon_den h1 e env0
      have e2 : (Sv.agg cs).den e = (Sv.agg (symL (bOf cs) (nOf cs) 0 lsL)).den env0 := canon_den h2 e env0
      have e3 : (Sv.agg bs).den e = (Sv.agg (symL (bOf bs) (nOf bs) 0 lsB)).den env0 := canon_den h3 e env0
      simp only [List.map_cons, List.map_nil] at this ⊢
      rw [e1, e2, e3, Sv.free_den (Vv.sv_free _) env0 e]
      exact this
    · cases hv
  · cases hv

def VhoP (n : Nat → Int) (b : Nat → Bool) (m : Nat → Int) : Vv := .agg ((hoR n b m (fun i => b (18 + i))).map Lv.b)
def VcuP (n : Nat → Int) (b : Nat → Bool) (m : Nat → Int) : Vv := .one (.b (cuP n b m (fun i => b (18 + i))))
def VapP (n : Nat → Int) (b : Nat → Bool) (m : Nat → Int) : Vv := .agg [.b (apP n b m (fun i => b (18 + i)) 0), .b (apP n b m (fun i => b (18 + i)) 1), .b (apP n b m (fun i => b (18 + i)) 2)]
def VhoR (n : Nat → Int) (b : Nat → Bool) (m : Nat → Int) (c : Nat → Bool) : Vv := .agg ((hoR n b m c).map Lv.b)
def VapR (n : Nat → Int) (b : Nat → Bool) (m : Nat → Int) (c : Nat → Bool) : Vv := .agg [.b (apP n b m c 0), .b (apP n b m c 1), .b (apP n b m c 2)]
noncomputable def spP : FuncId → Option (List Sv → St → Tree FLeaf) := fun f => match Nat.beq f 61 with
  | true => some (panT VhoP)
  | false => match Nat.beq f 62 with
    | true => some (panT VcuP)
    | false => match Nat.beq f 64 with
      | true => some (panT VapP)
      | false => spOr (spR [(77, refT VhoR), (78, refT VapR)]) spV f
theorem spP_ok : SpOk Try.prog spP := by
  intro f g hf args σ y hy
  unfold spP at hf
  split at hf
  · rename_i h1
    obtain rfl := beq_iff'.1 h1
    obtain rfl := Option.some.inj hf
    exact panT_ok (fun n b m => by
      have := res_ok tbl_ok tbl_any spV_ok (ho_eval n b m) (fun _ h => by cases h)
      rw [ho_eq] at this
      exact this) hy
  · split at hf
    · rename_i h1
      obtain rfl := beq_iff'.1 h1
      obtain rfl := Option.some.inj hf
      exact panT_ok (fun n b m => res_ok tbl_ok tbl_any spV_ok (cu_eval n b m) (fun _ h => by cases h)) hy
    · split at hf
      · rename_i h1
        obtain rfl := beq_iff'.1 h1
        obtain rfl := Option.some.inj hf
        exact panT_ok (fun n b m => res_ok tbl_ok tbl_any spL_ok (ap_eval n b m) (fun _ h => by cases h)) hy
      · refine spOr_ok (spR_ok (l := [(77, refT VhoR), (78, refT VapR)]) ⟨?_, ?_, trivial⟩) spV_ok f g hf args σ y hy
        · exact refT_ok fun n b m c z w => res_any tbl_ok tbl_any spV_ok (glb_free n b m c z) (hr_eval n b m c z) (fun _ h => by cases h) w
        · refine refT_ok fun n b m c z w => ?_
          have := res_any tbl_ok tbl_any spN_ok (glb_free n b m c z) (ar_eval n b m c z) (fun _ h => by cases h) w
          simp only [apR_eq] at this
          exact this
end Go.Proofs.Ytgiinciclnekjaa

/-
  Loops: one round from a state in names, and what it leaves.
-/
set_option linter.unusedSimpArgs false
set_option linter.unusedVariables false
namespace Go.Proofs.Ytgiinciclnekjaa
namespace Sx
open Go.RowKit

section
variable {P : Program} {tb : Tb}
/-- A place that changes from round to round. -/
inductive Pl where
  | t (n : Nat)
  | c (id off : Nat)
def Pl.w : Pl → Cv → Wr
  | .t n, v => .tm n (.one v)
  | .c id off, v => .cell id off v
def Pl.loc : Pl → Loc
  | .t n => .t n
  | .c id off => .c id off
def Pl.lv : Pl → Cv → LV
  | .t _, v => .sv (.one v)
  | .c _ _, v => .cv v
def Pl.rd (σ : St) : Pl → Option Cv
  | .t n => match alook σ.tm n with
    | some (.one z) => some z
    | _ => none
  | .c id off => (alook σ.bk id).bind fun b => b.cell off
def Lf.fits : Lf → Cv → Bool
  | .b, .b _ _ => true
  | .i k, .i k' _ _ => decide (k = k')
  | _, _ => false
def cvB : Cv → Bool
  | .b v _ => v
  | _ => false
def cvI : Cv → Int
  | .i _ n _ => n
  | _ => 0
abbrev Dom := List (Pl × Lf)
def putW (bs : Nat → Bool) (ns : Nat → Int) : Nat → Dom → List Wr
  | _, [] => []
  | j, (p, l) :: ps => p.w (l.cv bs ns j) :: putW bs ns (j + 1) ps
def domHas (d : Dom) (l : Loc) : Bool := d.any fun p => match p.1, l with
  | .t n, .t m => Nat.beq n m
  | .c id off, .c i o => Nat.beq id i && Nat.beq off o
  | _, _ => false
/-- A write that keeps what else is known. -/
def okWr (d : Dom) (σ0 : St) : Wr → Bool
  | .tm n _ => domHas d (.t n) || (alook σ0.tm n).isNone
  | .ft n => domHas d (.t n) || (alook σ0.tm n).isNone
  | .cell id off _ => domHas d (.c id off) || (alook σ0.bk id).isNone
  | .new id _ => (alook σ0.bk id).isNone
  | .nm c => !memb σ0.nl c
def rdB' (d : Dom) (σ : St) (j : Nat) : Bool := match d[j]? with
  | some (p, _) => match p.rd σ with
    | some c => cvB c
    | none => false
  | none => false
def rdI' (d : Dom) (σ : St) (j : Nat) : Int := match d[j]? with
  | some (p, _) => match p.rd σ with
    | some c => cvI c
    | none => 0
  | none => 0
def okStep (d : Dom) (σ0 I y : St) : Bool := (d.all fun p => match p.1.rd y with
    | some c => p.2.fits c
    | none => false) && (newL I y).all (okWr d σ0)
noncomputable instance : DecidableEq Loc := fun _ _ => Classical.propDecidable _
theorem Pl.w_fn (p : Pl) (v : Cv) (l : Loc) : (p.w v).fn l = if p.loc = l then some (some (p.lv v)) else none := by
  cases p with
  | t n =>
    cases l with
    | t m =>
      by_cases e : m = n
      · subst e; simp [Pl.w, Wr.fn, Pl.loc, Pl.lv]
      · simp [Pl.w, Wr.fn, Pl.loc, e, Ne.symm e]
    | _ => simp [Pl.w, Wr.fn, Pl.loc]
  | c id off =>
    cases l with
    | c i o =>
      by_cases e : i = id ∧ o = off
      · obtain ⟨rfl, rfl⟩ := e; simp [Pl.w, Wr.fn, Pl.loc, Pl.lv]
      · have e' : ¬ (id = i ∧ off = o) := fun h => e ⟨h.1.symm, h.2.symm⟩
        simp [Pl.w, Wr.fn, Pl.loc, e, e']
    | _ => simp [Pl.w, Wr.fn, Pl.loc]
theorem domHas_iff {d : Dom} {l : Loc} (h : ∃ p : Pl × Lf, p ∈ d ∧ p.1.loc = l) : domHas d l = true := by
  obtain ⟨⟨p, lf⟩, hp, rfl⟩ := h
  refine List.any_eq_true.2 ⟨_, hp, ?_⟩
  cases p <;> simp [Pl.loc]
theorem domHas_of {d : Dom} {l : Loc} (h : domHas d l = true) : ∃ p : Pl × Lf, p ∈ d ∧ p.1.loc = l := by
  obtain ⟨⟨p, lf⟩, hp, h2⟩ := List.any_eq_true.1 h
  refine ⟨_, hp, ?_⟩
  cases p <;> cases l <;> simp only [Bool.and_eq_true] at h2 <;> first
    | cases h2; done
    | (rw [Pl.loc, beq_iff'.1 h2])
    | (rw [Pl.loc, beq_iff'.1 h2.1, beq_iff'.1 h2.2])
theorem fns_put (bs : Nat → Bool) (ns : Nat → Int) (l : Loc) : ∀ (d : Dom) (j : Nat), (fns (putW bs ns j d) l = none ∧ ∀ p : Pl × Lf, p ∈ d → p.1.loc ≠ l) ∨ ∃ (i : Nat) (p : Pl) (lf : Lf), d[i]? = some (p, lf) ∧ p.loc = l ∧ fns (putW bs ns j d) l = some (some (p.lv (lf.cv bs ns (j + i))))
  | [], j => Or.inl ⟨rfl, fun p hp => by cases hp⟩
  | (p, lf) :: d, j => by
    rcases fns_put bs ns l d (j + 1) with ⟨h1, h2⟩ | ⟨i, q, lf', h1, h2, h3⟩
    · by_cases e : p.loc = l
      · refine Or.inr ⟨0, p, lf, rfl, e, ?_⟩
        simp only [putW, fns, h1, Pl.w_fn, if_pos e, Nat.add_zero]
      · refine Or.inl ⟨?_, fun q hq => ?_⟩
        · simp only [putW, fns, h1, Pl.w_fn, if_neg e]
        · cases hq with
          | head => exact e
          | tail _ hq => exact h2 q hq
    · refine Or.inr ⟨i + 1, q, lf', by simpa using h1, h2, ?_⟩
      simp only [putW, fns, h3]
      rw [show j + 1 + i = j + (i + 1) by omega]
theorem put_other {bs : Nat → Bool} {ns : Nat → Int} {d : Dom} {s : Sto} {l : Loc} (h : ∀ p : Pl × Lf, p ∈ d → p.1.loc ≠ l) : upds s (putW bs ns 0 d) l = s l := by
  rw [upds_fns]
  rcases fns_put bs ns l d 0 with ⟨h1, _⟩ | ⟨i, p, lf, h1, h2, _⟩
  · simp only [h1, Option.getD_none]
  · exact absurd h2 (h _ (List.mem_of_getElem? h1))
theorem put_at {bs : Nat → Bool} {ns : Nat → Int} {d : Dom} {s : Sto} {l : Loc} (h : ∃ p : Pl × Lf, p ∈ d ∧ p.1.loc = l) : ∃ (i : Nat) (p : Pl) (lf : Lf), d[i]? = some (p, lf) ∧ p.loc = l ∧ upds s (putW bs ns 0 d) l = some (p.lv (lf.cv bs ns i)) := by
  rw [upds_fns]
  rcases fns_put bs ns l d 0 with ⟨_, h2⟩ | ⟨i, p, lf, h1, h2, h3⟩
  · obtain ⟨p, hp, e⟩ := h; exact absurd e (h2 p hp)
  · exact ⟨i, p, lf, h1, h2, by dsimp only; rw [h3, Nat.zero_add]; rfl⟩
theorem Pl.ne_k (p : Pl) (id : Nat) : p.loc ≠ .k id := by cases p <;> simp [Pl.loc]
theorem Pl.ne_n (p : Pl) (c : Nat) : p.loc ≠ .n c := by cases p <;> simp [Pl.loc]
theorem Pl.rd_look {σ : St} {p : Pl} {c : Cv} (h : p.rd σ = some c) : look σ p.loc = some (p.lv c) := by
  cases p with
  | t n =>
    simp only [Pl.rd] at h
    split at h
    · rename_i c' hc
      obtain rfl := Option.some.inj h
      simp only [Pl.loc, look, hc]; rfl
    · cases h
  | c id off =>
    simp only [Pl.rd] at h
    obtain ⟨b, hb, hc⟩ := Option.bind_eq_some_iff.1 h
    simp only [Pl.loc, look, hb, Option.bind_some, hc]; rfl
theorem fits_den {l : Lf} {c : Cv} (h : l.fits c = true) {bs : Nat → Bool} {ns : Nat → Int} {j : Nat} (hb : bs j = cvB c) (hn : ns j = cvI c) (e : Env) : (l.cv bs ns j).den e = c.den e := by
  cases l with
  | b => cases c with
    | b v fl => show Value.bool (bs j) = Value.bool v; rw [hb]; rfl
    | _ => cases h
  | i k => cases c with
    | i k' n fl =>
      obtain rfl : k = k' := by simpa [Lf.fits] using h
      show Value.int k (ns j) = Value.int k n
      rw [hn]; rfl
    | _ => cases h
theorem Lf.cv_sc (l : Lf) (bs : Nat → Bool) (ns : Nat → Int) (j : Nat) (s : Sto) : (l.cv bs ns j).sc s := by cases l <;> trivial
/-- What a round leaves is again such a state, with other names. -/
theorem round_rel {C : Ctx} {N : Nat} {e0 e : Env} {a0 a : Act} {w0 w : World} {d : Dom} {σ0 I y : St} {bs : Nat → Bool} {ns : Nat → Int} (hI : look I = upds (look σ0) (putW bs ns 0 d)) (hx : Ext I y) (ok : okStep d σ0 I y = true)
    (hR0 : Rel C N e0 (look I) a0 w0) (hR : Rel C N e (look y) a w) : Rel C N e (upds (look σ0) (putW (rdB' d y) (rdI' d y) 0 d)) a w := by
  obtain ⟨o1, o2⟩ := Bool.and_eq_true_iff.1 ok
  obtain ⟨ws, hw, hl⟩ := newL_ext hx
  have hlook := look_apps hw
  have hws := hR0.ws
  -- what is not written
  have keep : ∀ l v, look σ0 l = some v → (∀ p : Pl × Lf, p ∈ d → p.1.loc ≠ l) → look y l = some v := by
    intro l v hv hd
    have hnd : domHas d l = false := by
      cases hc : domHas d l with
      | false => rfl
      | true => obtain ⟨p, hp, e⟩ := domHas_of hc; exact absurd e (hd p hp)
    rw [hlook, upds_fns]
    have hno : fns ws l = none := by
      cases hf : fns ws l with
      | none => rfl
      | some z =>
        exfalso
        obtain ⟨x, hx1, hx2⟩ := fns_some (l := l) (ws := ws) (by rw [hf]; rfl)
        have hok := List.all_eq_true.1 o2 x (by rw [hl]; exact List.mem_reverse.2 hx1)
        cases x with
        | tm n v' =>
          cases l with
          | t m =>
            obtain rfl : m = n := by simp only [Wr.fn] at hx2; split at hx2; assumption; cases hx2
            simp only [okWr, hnd, Bool.false_or, Option.isNone_iff_eq_none] at hok
            simp only [look, hok] at hv; cases hv
          | _ => cases hx2
        | ft n =>
          cases l with
          | t m =>
            obtain rfl : m = n := by simp only [Wr.fn] at hx2; split at hx2; assumption; cases hx2
            simp only [okWr, hnd, Bool.false_or, Option.isNone_iff_eq_none] at hok
            simp only [look, hok] at hv; cases hv
          | _ => cases hx2
        | cell id off v' =>
          cases l with
          | c i o =>
            obtain ⟨rfl, rfl⟩ : i = id ∧ o = off := by simp only [Wr.fn] at hx2; split at hx2; assumption; cases hx2
            simp only [okWr, hnd, Bool.false_or, Option.isNone_iff_eq_none] at hok
            simp only [look, hok] at hv; cases hv
          | _ => cases hx2
        | new id b =>
          simp only [okWr, Option.isNone_iff_eq_none] at hok
          cases l with
          | k i =>
            obtain rfl : i = id := by simp only [Wr.fn] at hx2; split at hx2; assumption; cases hx2
            simp only [look, hok] at hv; cases hv
          | c i o =>
            obtain rfl : i = id := by simp only [Wr.fn] at hx2; split at hx2; assumption; cases hx2
            simp only [look, hok] at hv; cases hv
          | _ => cases hx2
        | nm c =>
          cases l with
          | n d' =>
            obtain rfl : d' = c := by simp only [Wr.fn] at hx2; split at hx2; assumption; cases hx2
            simp only [okWr, Bool.not_eq_true'] at hok
            simp only [look, hok] at hv; cases hv
          | _ => cases hx2
    dsimp only
    rw [hno, Option.getD_none, hI, put_other hd, hv]
  have ik : ∀ id, look I (.k id) = look σ0 (.k id) := fun id => by rw [hI]; exact put_other fun p _ => p.1.ne_k id
  have i2 : ∀ id, upds (look σ0) (putW (rdB' d y) (rdI' d y) 0 d) (.k id) = look σ0 (.k id) := fun id => put_other fun p _ => p.1.ne_k id
  have n1 : ∀ c, look I (.n c) = look σ0 (.n c) := fun c => by rw [hI]; exact put_other fun p _ => p.1.ne_n c
  have n2 : ∀ c, upds (look σ0) (putW (rdB' d y) (rdI' d y) 0 d) (.n c) = look σ0 (.n c) := fun c => put_other fun p _ => p.1.ne_n c
  have hS : Sub (look I) (upds (look σ0) (putW (rdB' d y) (rdI' d y) 0 d)) := ⟨fun id h => by unfold kn at h ⊢; rw [i2, ← ik]; exact h, fun c h => by unfold knn at h ⊢; rw [n2, ← n1]; exact h⟩
  -- what is read
  have dom : ∀ l, (∃ p : Pl × Lf, p ∈ d ∧ p.1.loc = l) → ∃ p : Pl, ∃ lf : Lf, ∃ i c, p.loc = l ∧ upds (look σ0) (putW (rdB' d y) (rdI' d y) 0 d) l = some (p.lv (lf.cv (rdB' d y) (rdI' d y) i)) ∧ look y l = some (p.lv c) ∧ ∀ e, (lf.cv (rdB' d y) (rdI' d y) i).den e = c.den e := by
    intro l hl'
    obtain ⟨i, p, lf, h1, h2, h3⟩ := put_at (bs := rdB' d y) (ns := rdI' d y) (s := look σ0) hl'
    have hp := List.all_eq_true.1 o1 _ (List.mem_of_getElem? h1)
    simp only [] at hp
    cases hc : p.rd y with
    | none => rw [hc] at hp; cases hp
    | some c =>
      rw [hc] at hp
      refine ⟨p, lf, i, c, h2, h3, by rw [← h2]; exact Pl.rd_look hc, fun e => fits_den hp ?_ ?_ e⟩
      · simp only [rdB', h1, hc]
      · simp only [rdI', h1, hc]
  refine hR.wk ⟨?_, ?_, ?_, ?_⟩ ⟨fun id p hp => hS.1 id (hR0.hp.pin.1 id p hp).2, fun c m hm => hS.2 c (hR0.hp.pin.2 c m hm).2⟩
  · intro t v hv
    by_cases hd : ∃ p : Pl × Lf, p ∈ d ∧ p.1.loc = .t t
    · obtain ⟨p, lf, i, c, h1, h2, h3, h4⟩ := dom _ hd
      rw [h2] at hv
      cases p with
      | t n =>
        obtain rfl : Sv.one (lf.cv (rdB' d y) (rdI' d y) i) = v := by simpa [Pl.lv] using hv
        exact ⟨⟨.one c, h3, h4⟩, lf.cv_sc _ _ _ _⟩
      | c id off => cases h1
    · have hd' : ∀ p : Pl × Lf, p ∈ d → p.1.loc ≠ .t t := fun p hp e => hd ⟨p, hp, e⟩
      rw [put_other hd'] at hv
      exact ⟨⟨v, keep _ _ hv hd', fun _ => rfl⟩, (hws.tm t v (by rw [hI, put_other hd']; exact hv)).sub hS⟩
  · intro id off v hv
    by_cases hd : ∃ p : Pl × Lf, p ∈ d ∧ p.1.loc = .c id off
    · obtain ⟨p, lf, i, c, h1, h2, h3, h4⟩ := dom _ hd
      rw [h2] at hv
      cases p with
      | t n => cases h1
      | c id' off' =>
        obtain rfl : lf.cv (rdB' d y) (rdI' d y) i = v := by simpa [Pl.lv] using hv
        refine ⟨⟨c, h3, h4⟩, lf.cv_sc _ _ _ _, ?_⟩
        obtain ⟨i', p', lf', g1, g2, g3⟩ := put_at (bs := bs) (ns := ns) (s := look σ0) hd
        cases p' with
        | t n => cases g2
        | c id'' off'' =>
          obtain ⟨_, t, ro, n, cp, q1, q2⟩ := hws.cl id off _ (by rw [hI]; exact g3)
          exact ⟨t, ro, n, cp, by rw [i2, ← ik]; exact q1, q2⟩
    · have hd' : ∀ p : Pl × Lf, p ∈ d → p.1.loc ≠ .c id off := fun p hp e => hd ⟨p, hp, e⟩
      rw [put_other hd'] at hv
      obtain ⟨q1, t, ro, n, cp, q2, q3⟩ := hws.cl id off v (by rw [hI, put_other hd']; exact hv)
      exact ⟨⟨v, keep _ _ hv hd', fun _ => rfl⟩, q1.sub hS, t, ro, n, cp, by rw [i2, ← ik]; exact q2, q3⟩
  · intro id b hb _
    rw [i2] at hb
    exact keep _ _ hb fun p _ => p.1.ne_k id
  · intro id b c es hb hc
    rw [i2, ← ik] at hb
    exact hS.2 c (hws.cp id b c es hb hc)
/-- A loop: every round leaves such a state again, or goes out. -/
theorem loop_ok {wf : List FuncId} {call : CallF} (hT : TbOk P tb) (hm : P.follows .mixedOrders = true) (hc : CallFOk P call) {N fuel : Nat} {body : Code} (d : Dom) (σ0 : St) (I : (Nat → Bool) → (Nat → Int) → St) (hI : ∀ bs ns, look (I bs ns) = upds (look σ0) (putW bs ns 0 d))
    (inv : (Nat → Bool) → (Nat → Int) → Prop) (μ : (Nat → Int) → Nat) (E : Leaf → Prop)
    (hstep : ∀ bs ns, inv bs ns → ∃ y, (evC tb wf call N [] fuel body (I bs ns)).At y ∧ ((y.1 = .normal ∧ okStep d σ0 (I bs ns) y.2 = true ∧ inv (rdB' d y.2) (rdI' d y.2) ∧ μ (rdI' d y.2) < μ ns) ∨ ((∃ i, y.1 = .exit i) ∨ y.1 = .ret) ∧ E y))
    {C : Ctx} {Q : Exit → Act → World → Prop} (hQ : ∀ y, E y → ∀ e a w, Rel C N e (look y.2) a w → Post P Q y.1 a w) :
    ∀ (n : Nat) bs ns, inv bs ns → μ ns < n → ∀ e a w, Rel C N e (look (I bs ns)) a w → Code.rounds P body Q n a w
  | 0, _, _, _, h, _, _, _, _ => by omega
  | n + 1, bs, ns, hi, hμ, e, a, w, hR => by
    obtain ⟨y, h1, h2⟩ := hstep bs ns hi
    show body.wp P (Exit.then (Code.rounds P body Q n) Q) a w
    refine evC_ok hT hm hc fuel body (I bs ns) y h1 C e a w _ hR fun e' a' w' hR' => ?_
    rcases h2 with ⟨ho, k1, k2, k3⟩ | ⟨ho, k1⟩
    · rw [ho]
      show Code.rounds P body Q n a' w'
      have hr := round_rel (hI bs ns) (evC_every.at_ h1) k1 hR hR'
      rw [← hI] at hr
      exact loop_ok hT hm hc d σ0 I hI inv μ E hstep hQ n _ _ k2 (by omega) e' a' w' hr
    · have := hQ y k1 e' a' w' hR'
      rcases ho with ⟨i, ho⟩ | ho
      · rw [ho] at this ⊢; exact this
      · rw [ho] at this ⊢; exact this
end
end Sx
end Go.Proofs.Ytgiinciclnekjaa

/-
  What stands behind a loop; a function with a loop.
-/
set_option linter.unusedSimpArgs false
set_option linter.unusedVariables false
namespace Go.Proofs.Ytgiinciclnekjaa
namespace Sx
open Go.RowKit

section
variable {P : Program} {tb : Tb}
/-- What was still to be done. -/
def evK (tb : Tb) (wf : List FuncId) (call : CallF) (N fuel : Nat) : List It → Leaf → Tree Leaf
  | [], x => match x.1 with
    | .stop _ => .fail
    | _ => .leaf x
  | .code c :: k, x => match x.1 with
    | .normal => (evC tb wf call N [] fuel c x.2).bind (evK tb wf call N fuel k)
    | .stop _ => .fail
    | _ => evK tb wf call N fuel k x
  | .blk id :: k, x => match x.1 with
    | .exit i => match Nat.beq i id with
      | true => evK tb wf call N fuel k (.normal, x.2)
      | false => evK tb wf call N fuel k x
    | .stop _ => .fail
    | _ => evK tb wf call N fuel k x
def outE : Out → Exit
  | .normal => .normal
  | .exit i => .exit i
  | .ret => .ret
  | .stop _ => .normal
theorem evK_stop {wf : List FuncId} {call : CallF} {N fuel : Nat} {l : List It} {σ : St} {y : Leaf} : ∀ {k : List It}, (evK tb wf call N fuel k (.stop l, σ)).At y → False
  | [], h => h
  | .code _ :: _, h => h
  | .blk _ :: _, h => h
theorem evK_ok {wf : List FuncId} {call : CallF} (hT : TbOk P tb) (hm : P.follows .mixedOrders = true) (hc : CallFOk P call) {N fuel : Nat} {C : Ctx} {Q : Exit → Act → World → Prop} : ∀ (k : List It) (o : Out) (σ : St) (y : Leaf), (evK tb wf call N fuel k (o, σ)).At y → (∀ e a w, Rel C N e (look y.2) a w → Post P Q y.1 a w) →
    ∀ e a w, Rel C N e (look σ) a w → stackPost P Q k (outE o) a w
  | [], o, σ, y, h, hQ, e, a, w, hR => by
    cases o with
    | stop l => exact (evK_stop h).elim
    | normal => obtain rfl : (Out.normal, σ) = y := h; exact hQ e a w hR
    | exit i => obtain rfl : (Out.exit i, σ) = y := h; exact hQ e a w hR
    | ret => obtain rfl : (Out.ret, σ) = y := h; exact hQ e a w hR
  | .code c :: k, o, σ, y, h, hQ, e, a, w, hR => by
    cases o with
    | normal =>
      obtain ⟨z, h1, h2⟩ := Tree.At_bind.1 (show (Tree.bind _ _).At y from h)
      show c.wp P (stackPost P Q k) a w
      refine evC_ok hT hm hc fuel c σ z h1 C e a w _ hR fun e' a' w' hR' => ?_
      obtain ⟨o', σ'⟩ := z
      have ih := evK_ok hT hm hc k o' σ' y h2 hQ e' a' w' hR'
      cases o' with
      | stop l => exact (evK_stop h2).elim
      | normal => exact ih
      | exit i => exact ih
      | ret => exact ih
    | exit i => exact evK_ok hT hm hc k (.exit i) σ y h hQ e a w hR
    | ret => exact evK_ok hT hm hc k .ret σ y h hQ e a w hR
    | stop l => exact (evK_stop h).elim
  | .blk id :: k, o, σ, y, h, hQ, e, a, w, hR => by
    cases o with
    | normal => exact evK_ok hT hm hc k .normal σ y h hQ e a w hR
    | exit i =>
      simp only [evK] at h
      show (if i = id then stackPost P Q k .normal a w else stackPost P Q k (.exit i) a w)
      split at h
      · rename_i hb
        rw [if_pos (beq_iff'.1 hb)]
        exact evK_ok hT hm hc k .normal σ y h hQ e a w hR
      · rename_i hb
        rw [if_neg (beq_ff.1 hb)]
        exact evK_ok hT hm hc k (.exit i) σ y h hQ e a w hR
    | ret => exact evK_ok hT hm hc k .ret σ y h hQ e a w hR
    | stop l => exact (evK_stop h).elim
/-- Ahead of the first round: the changing places are read. -/
theorem init_rel {C : Ctx} {N : Nat} {e : Env} {a : Act} {w : World} {d : Dom} {σ : St} (ok : (d.all fun p => match p.1.rd σ with
    | some c => p.2.fits c
    | none => false) = true) (hR : Rel C N e (look σ) a w) : Rel C N e (upds (look σ) (putW (rdB' d σ) (rdI' d σ) 0 d)) a w := by
  have hws := hR.ws
  have i2 : ∀ id, upds (look σ) (putW (rdB' d σ) (rdI' d σ) 0 d) (.k id) = look σ (.k id) := fun id => put_other fun p _ => p.1.ne_k id
  have n2 : ∀ c, upds (look σ) (putW (rdB' d σ) (rdI' d σ) 0 d) (.n c) = look σ (.n c) := fun c => put_other fun p _ => p.1.ne_n c
  have hS : Sub (look σ) (upds (look σ) (putW (rdB' d σ) (rdI' d σ) 0 d)) := ⟨fun id h => by unfold kn at h ⊢; rw [i2]; exact h, fun c h => by unfold knn at h ⊢; rw [n2]; exact h⟩
  have dom : ∀ l, (∃ p : Pl × Lf, p ∈ d ∧ p.1.loc = l) → ∃ p : Pl, ∃ lf : Lf, ∃ i c, p.loc = l ∧ upds (look σ) (putW (rdB' d σ) (rdI' d σ) 0 d) l = some (p.lv (lf.cv (rdB' d σ) (rdI' d σ) i)) ∧ look σ l = some (p.lv c) ∧ ∀ e, (lf.cv (rdB' d σ) (rdI' d σ) i).den e = c.den e := by
    intro l hl'
    obtain ⟨i, p, lf, h1, h2, h3⟩ := put_at (bs := rdB' d σ) (ns := rdI' d σ) (s := look σ) hl'
    have hp := List.all_eq_true.1 ok _ (List.mem_of_getElem? h1)
    simp only [] at hp
    cases hc : p.rd σ with
    | none => rw [hc] at hp; cases hp
    | some c =>
      rw [hc] at hp
      refine ⟨p, lf, i, c, h2, h3, by rw [← h2]; exact Pl.rd_look hc, fun e => fits_den hp ?_ ?_ e⟩
      · simp only [rdB', h1, hc]
      · simp only [rdI', h1, hc]
  refine hR.wk ⟨?_, ?_, ?_, ?_⟩ ⟨fun id p hp => hS.1 id (hR.hp.pin.1 id p hp).2, fun c m hm => hS.2 c (hR.hp.pin.2 c m hm).2⟩
  · intro t v hv
    by_cases hd : ∃ p : Pl × Lf, p ∈ d ∧ p.1.loc = .t t
    · obtain ⟨p, lf, i, c, h1, h2, h3, h4⟩ := dom _ hd
      rw [h2] at hv
      cases p with
      | t n =>
        obtain rfl : Sv.one (lf.cv (rdB' d σ) (rdI' d σ) i) = v := by simpa [Pl.lv] using hv
        exact ⟨⟨.one c, h3, h4⟩, lf.cv_sc _ _ _ _⟩
      | c id off => cases h1
    · have hd' : ∀ p : Pl × Lf, p ∈ d → p.1.loc ≠ .t t := fun p hp e => hd ⟨p, hp, e⟩
      rw [put_other hd'] at hv
      exact ⟨⟨v, hv, fun _ => rfl⟩, (hws.tm t v hv).sub hS⟩
  · intro id off v hv
    by_cases hd : ∃ p : Pl × Lf, p ∈ d ∧ p.1.loc = .c id off
    · obtain ⟨p, lf, i, c, h1, h2, h3, h4⟩ := dom _ hd
      rw [h2] at hv
      cases p with
      | t n => cases h1
      | c id' off' =>
        obtain rfl : lf.cv (rdB' d σ) (rdI' d σ) i = v := by simpa [Pl.lv] using hv
        obtain ⟨_, t, ro, n, cp, q1, q2⟩ := hws.cl id off _ h3
        exact ⟨⟨c, h3, h4⟩, lf.cv_sc _ _ _ _, t, ro, n, cp, by rw [i2]; exact q1, q2⟩
    · have hd' : ∀ p : Pl × Lf, p ∈ d → p.1.loc ≠ .c id off := fun p hp e => hd ⟨p, hp, e⟩
      rw [put_other hd'] at hv
      obtain ⟨q1, t, ro, n, cp, q2, q3⟩ := hws.cl id off v hv
      exact ⟨⟨v, hv, fun _ => rfl⟩, q1.sub hS, t, ro, n, cp, by rw [i2]; exact q2, q3⟩
  · intro id b hb _
    rw [i2] at hb
    exact hb
  · intro id b c es hb hc
    rw [i2] at hb
    exact hS.2 c (hws.cp id b c es hb hc)
/-- A loop that code has stopped at: from there on to the end. -/
theorem stop_loop {F : Leaf → Prop} {wf : List FuncId} {call : CallF} (hT : TbOk P tb) (hm : P.follows .mixedOrders = true) (hc : CallFOk P call) {N fuel : Nat} {body : Code} {k : Nat} {rest : List It} (d : Dom) (σ : St) (I : (Nat → Bool) → (Nat → Int) → St) (hI : ∀ bs ns, look (I bs ns) = upds (look σ) (putW bs ns 0 d))
    (ok : (d.all fun p => match p.1.rd σ with
      | some c => p.2.fits c
      | none => false) = true)
    (inv : (Nat → Bool) → (Nat → Int) → Prop) (μ : (Nat → Int) → Nat) (h0 : inv (rdB' d σ) (rdI' d σ))
    (hstep : ∀ bs ns, inv bs ns → ∃ y, (evC tb wf call N [] fuel body (I bs ns)).At y ∧ ((y.1 = .normal ∧ okStep d σ (I bs ns) y.2 = true ∧ inv (rdB' d y.2) (rdI' d y.2) ∧ μ (rdI' d y.2) < μ ns) ∨
      ((∃ i, y.1 = .exit i) ∨ y.1 = .ret) ∧ ∃ z, (evK tb wf call N fuel (.blk k :: rest) y).At z ∧ F z))
    {C : Ctx} {Q : Exit → Act → World → Prop} (hQ : ∀ z, F z → ∀ e a w, Rel C N e (look z.2) a w → Post P Q z.1 a w) {e : Env} {a : Act} {w : World} (hR : Rel C N e (look σ) a w) :
    stackPost P Q (.code (.block k (.loop body)) :: rest) .normal a w := by
  show (Code.block k (.loop body)).wp P (stackPost P Q rest) a w
  refine wp_block (wp_loop_rounds (μ (rdI' d σ) + 1) ?_)
  refine loop_ok (wf := wf) (fuel := fuel) hT hm hc d σ I hI inv μ (fun y => ((∃ i, y.1 = .exit i) ∨ y.1 = .ret) ∧ ∃ z, (evK tb wf call N fuel (.blk k :: rest) y).At z ∧ F z) (fun bs ns hi => ?_) (C := C) (Q := Exit.inBlock k (stackPost P Q rest)) ?_ _ _ _ h0 (Nat.lt_succ_self _) e a w (by rw [hI]; exact init_rel ok hR)
  · obtain ⟨y, h1, h2⟩ := hstep bs ns hi
    refine ⟨y, h1, ?_⟩
    rcases h2 with h2 | ⟨h2, h3⟩
    · exact Or.inl h2
    · exact Or.inr ⟨h2, h2, h3⟩
  · rintro ⟨o, σ'⟩ ⟨ho, z, hz, hF⟩ e' a' w' hR'
    have := evK_ok hT hm hc (.blk k :: rest) o σ' z hz (fun e a w hR => hQ z hF e a w hR) e' a' w' hR'
    rcases ho with ⟨i, ho⟩ | ho
    · simp only at ho; subst ho; exact this
    · simp only at ho; subst ho; exact this
end
end Sx
end Go.Proofs.Ytgiinciclnekjaa

/-
  A function that writes into one block that it is handed, and reads one more: what is known of it at one state is known at every state that has the two blocks.
-/
set_option linter.unusedSimpArgs false
set_option linter.unusedVariables false
namespace Go.Proofs.Ytgiinciclnekjaa
namespace Sx
open Go.RowKit

section
variable {P : Program} {tb : Tb}
/-- A block at 1 that may be written, a block at 0 that is read. -/
def stW (T : TypeId) (cs : List Cv) (Tg : TypeId) (gs : List Cv) : St := { tm := [], bk := [(1, .ar T false cs none), (0, .ar Tg true gs none)], nx := 2, nl := [], nn := 0, lg := [], vr := [] }
def rho (id gid : Nat) : Nat → Nat := fun i => if i = 1 then id else gid
def Blk.putL (cs : List Cv) : Blk → Blk
  | .ar t ro _ cp => .ar t ro cs cp
  | b => b
def putC (σ : St) (id : Nat) (cs : List Cv) : St := { σ with bk := amod (Blk.putL cs) σ.bk id, lg := (cellWrs id 0 cs).reverse ++ σ.lg }
theorem mem_cellWrs {id : Nat} : ∀ {cs : List Cv} {o j : Nat}, j < cs.length → ∃ v, Wr.cell id (o + j) v ∈ cellWrs id o cs
  | [], _, _, h => by simp at h
  | c :: cs, o, 0, _ => ⟨c, List.mem_cons_self⟩
  | c :: cs, o, j + 1, h => by
    obtain ⟨v, hv⟩ := mem_cellWrs (id := id) (cs := cs) (o := o + 1) (j := j) (by simpa using h)
    exact ⟨v, List.mem_cons_of_mem _ (by rwa [show o + (j + 1) = o + 1 + j by omega])⟩
theorem inB_den {c : Cv} {K : List Nat} (h : c.inB K [] = true) {e e' : Env} (hA : ∀ i, memb K i = true → e'.pl i = e.pl i) : c.den e' = c.den e := by
  refine Cv.den_agree (s := stoOf K []) ⟨fun i hi => hA i ?_, fun d hd => ?_⟩ (Cv.inB_sc h)
  · unfold kn at hi; simp only [stoOf] at hi
    split at hi
    · assumption
    · cases hi
  · unfold knn at hd; simp only [stoOf, memb] at hd; cases hd
theorem ren_sc {c : Cv} {K : List Nat} (h : c.inB K [] = true) {ρ : Nat → Nat} {s : Sto} (hk : ∀ i, memb K i = true → kn s (ρ i)) : (c.ren ρ).sc s := by
  have hn : ∀ n : Sn, n.inB [] = true → n.sc s := fun n hn => by cases n <;> first | trivial | cases hn
  cases c with
  | ptr id off =>
    simp only [Cv.inB, Bool.and_eq_true] at h
    exact ⟨hk id h.1, hn _ h.2⟩
  | slc id off len cap =>
    simp only [Cv.inB, Bool.and_eq_true] at h
    exact ⟨hk id h.1.1.1, hn _ h.1.1.2, hn _ h.1.2, hn _ h.2⟩
  | fn f caps =>
    intro p hp
    obtain ⟨q, hq, rfl⟩ := List.mem_map.1 hp
    have := List.all_eq_true.1 h q hq
    cases q with
    | ptr id off => exact hk id this
    | val v l => trivial
  | _ => trivial
theorem sub_st (T : TypeId) (cs : List Cv) (Tg : TypeId) (gs : List Cv) : Sub (stoOf [1, 0] []) (look (stW T cs Tg gs)) := by
  refine ⟨fun i hi => ?_, fun c hc => ?_⟩
  · have hm : memb [1, 0] i = true := by
      unfold kn at hi; simp only [stoOf] at hi
      split at hi
      · assumption
      · cases hi
    have := memb_iff.1 hm
    simp only [List.mem_cons, List.not_mem_nil, or_false] at this
    rcases this with rfl | rfl <;> rfl
  · unfold knn at hc; simp only [stoOf, memb] at hc; cases hc
theorem FunOk.renW {f : FuncId} {args0 args : List Sv} {T Tg : TypeId} {cs gs cs' cs1 gs1 : List Cv} {σ0' σ : St} {v : Sv} {ro : Bool} {cpg : Option (Nat × Nat)} {id gid : Nat} (h : FunOk P f args0 (stW T cs Tg gs) v σ0')
    (hb : alook σ.bk id = some (.ar T false cs1 none)) (hg : alook σ.bk gid = some (.ar Tg ro gs1 cpg)) (hne : id ≠ gid) (sc1 : SameCells (rho id gid) cs cs1) (sg : SameCells (rho id gid) gs gs1)
    (ics : cs.all (Cv.inB [1, 0] []) = true) (igs : gs.all (Cv.inB [1, 0] []) = true)
    (hr : alook σ0'.bk 1 = some (.ar T false cs' none)) (hlen : cs'.length = cs.length) (ics' : cs'.all (Cv.inB [1, 0] []) = true)
    (ha : ∀ e, args.map (·.den e) = args0.map (·.den (e.ren (rho id gid)))) (hs : ∀ x ∈ args0, x.sc (look (stW T cs Tg gs))) (hv : v.freeB = true) :
    FunOk P f args σ v (putC σ id (cs'.map (Cv.ren (rho id gid)))) := by
  have hkeep : KeepL σ (putC σ id (cs'.map (Cv.ren (rho id gid)))) := by
    intro i off _ hu
    by_cases hi : i = id
    · subst hi
      have hlen1 : cs1.length = cs.length := sc1.1
      have hge : cs.length ≤ off := by
        rcases Nat.lt_or_ge off cs.length with h1 | h1
        · exfalso
          obtain ⟨v, hv⟩ := mem_cellWrs (id := i) (cs := cs'.map (Cv.ren (rho i gid))) (o := 0) (j := off) (by rw [List.length_map, hlen]; exact h1)
          have := List.all_eq_true.1 hu _ (List.mem_append_left _ (List.mem_reverse.2 hv))
          simp at this
        · exact h1
      simp only [look, putC, alook_amod, if_true, hb, Option.map_some, Option.bind_some, Blk.putL, Blk.cell]
      rw [List.getElem?_eq_none (by rw [List.length_map, hlen]; exact hge), List.getElem?_eq_none (by rw [hlen1]; exact hge)]
    · simp only [look, putC, alook_amod, if_neg hi]
  refine ⟨fun C e w hp _ => ?_, hkeep⟩
  have S0 := sub_st T cs Tg gs
  have k1 : look σ (.k id) = some (.bk (.ar T false cs1.length none)) := by simp only [look, hb]; rfl
  have kg : look σ (.k gid) = some (.bk (.ar Tg ro gs1.length cpg)) := by simp only [look, hg]; rfl
  have r1 : rho id gid 1 = id := rfl
  have r0 : rho id gid 0 = gid := rfl
  let C1 : Ctx := ⟨fun k => k = (e.pl id).1 ∨ w.heap.size ≤ k, fun _ => none, fun _ => none, w⟩
  have cellOf : ∀ {i : Nat} {b0 b1 : List Cv} {j : Nat} {c : Cv} {t : TypeId} {r : Bool} {cp : Option (Nat × Nat)}, alook σ.bk (rho id gid i) = some (.ar t r b1 cp) → SameCells (rho id gid) b0 b1 → b0[j]? = some c → w.cell? ((e.ren (rho id gid)).ad i j) = some (c.den (e.ren (rho id gid))) := by
    intro i b0 b1 j c t r cp hbk hsame hc
    have hlt := (List.getElem?_eq_some_iff.1 hc).1
    have hlt1 : j < b1.length := by rw [hsame.1]; exact hlt
    have h5 := hsame.2 e j
    rw [hc, List.getElem?_eq_getElem hlt1] at h5
    have h5 : (b1[j]).den e = c.den (e.ren (rho id gid)) := by simpa using h5
    have h6 : look σ (.c (rho id gid i) j) = some (.cv b1[j]) := by
      simp only [look, hbk, Option.bind_some, Blk.cell, List.getElem?_eq_getElem hlt1, Option.map_some]
    obtain ⟨_, _, h7⟩ := hp.cl _ _ _ h6
    rw [h5] at h7
    exact h7
  have two : ∀ i b, look (stW T cs Tg gs) (.k i) = some (.bk b) → (i = 1 ∧ b = .ar T false cs.length none) ∨ (i = 0 ∧ b = .ar Tg true gs.length none) := by
    intro i b hib
    simp only [look, stW, alook] at hib
    cases h1 : Nat.beq 1 i with
    | true =>
      rw [h1] at hib
      obtain rfl := beq_iff'.1 h1
      exact Or.inl ⟨rfl, by simpa [Blk.info] using hib.symm⟩
    | false =>
      rw [h1] at hib
      cases h0 : Nat.beq 0 i with
      | true =>
        rw [h0] at hib
        obtain rfl := beq_iff'.1 h0
        exact Or.inr ⟨rfl, by simpa [Blk.info] using hib.symm⟩
      | false => rw [h0] at hib; cases hib
  have hp0 : Hp C1 (e.ren (rho id gid)) (look (stW T cs Tg gs)) w := by
    refine ⟨fun k hk => Or.inr hk, ?_, ?_, ?_, ?_, ?_, ?_, ?_, ⟨fun _ _ h => (by cases h), fun _ _ h => (by cases h)⟩, ⟨rfl, rfl, rfl, Nat.le_refl _, fun _ _ _ => rfl⟩⟩
    · intro i j c hc
      simp only [look, stW, alook] at hc
      cases h1 : Nat.beq 1 i with
      | true =>
        rw [h1] at hc
        obtain rfl := beq_iff'.1 h1
        obtain ⟨c', hc1, hc2⟩ := Option.map_eq_some_iff.1 (show (cs[j]?).map LV.cv = some (.cv c) from hc)
        obtain rfl : c' = c := by simpa using hc2
        exact ⟨(Cv.inB_sc (List.all_eq_true.1 ics _ (List.mem_of_getElem? hc1))).sub S0, ⟨T, false, cs.length, none, rfl, (List.getElem?_eq_some_iff.1 hc1).1⟩, cellOf (i := 1) hb sc1 hc1⟩
      | false =>
        rw [h1] at hc
        cases h0 : Nat.beq 0 i with
        | true =>
          rw [h0] at hc
          obtain rfl := beq_iff'.1 h0
          obtain ⟨c', hc1, hc2⟩ := Option.map_eq_some_iff.1 (show (gs[j]?).map LV.cv = some (.cv c) from hc)
          obtain rfl : c' = c := by simpa using hc2
          exact ⟨(Cv.inB_sc (List.all_eq_true.1 igs _ (List.mem_of_getElem? hc1))).sub S0, ⟨Tg, true, gs.length, none, rfl, (List.getElem?_eq_some_iff.1 hc1).1⟩, cellOf (i := 0) hg sg hc1⟩
        | false => rw [h0] at hc; cases hc
    · intro i t n cp hi off ho
      rcases two i _ hi with ⟨rfl, h2⟩ | ⟨rfl, h2⟩
      · cases h2
        exact hp.ar id T cs1.length none k1 off (by rw [sc1.1]; exact ho)
      · cases h2
    · intro i t r n f cp hi
      rcases two i _ hi with ⟨_, h2⟩ | ⟨_, h2⟩ <;> cases h2
    · intro i b c es hi hcp
      rcases two i _ hi with ⟨_, rfl⟩ | ⟨_, rfl⟩ <;> cases hcp
    · intro i j b b' hi hj hrw hl hij
      rcases two i _ hi with ⟨rfl, rfl⟩ | ⟨rfl, rfl⟩
      · rcases two j _ hj with ⟨rfl, _⟩ | ⟨rfl, _⟩
        · exact absurd rfl hij
        · exact hp.inj id gid _ _ k1 kg rfl rfl hne
      · cases hrw
    · intro i b hi hl
      rcases two i _ hi with ⟨rfl, _⟩ | ⟨rfl, _⟩
      · exact hp.lt id _ k1 rfl
      · exact hp.lt gid _ kg rfl
    · intro i b hi hrw
      rcases two i _ hi with ⟨rfl, rfl⟩ | ⟨rfl, rfl⟩
      · exact Or.inl rfl
      · cases hrw
  have h1 := h.run C1 (e.ren (rho id gid)) w hp0 hs
  rw [ha e]
  refine h1.mono fun en w' => ?_
  rintro ⟨e', hA, hp', rfl, -⟩
  have hpl : ∀ i, memb [1, 0] i = true → e'.pl i = (e.ren (rho id gid)).pl i := fun i hi => hA.1 i (S0.1 i (kn_stoOf hi))
  have kn' : ∀ i, memb [1, 0] i = true → kn (look (putC σ id (cs'.map (Cv.ren (rho id gid))))) (rho id gid i) := by
    intro i hi
    rw [kn_look]
    simp only [putC, alook_amod]
    have := memb_iff.1 hi
    simp only [List.mem_cons, List.not_mem_nil, or_false] at this
    rcases this with rfl | rfl
    · rw [r1, if_pos rfl, hb]; rfl
    · rw [r0, if_neg (Ne.symm hne), hg]; rfl
  have kk : ∀ i, look (putC σ id (cs'.map (Cv.ren (rho id gid)))) (.k i) = look σ (.k i) := by
    intro i
    simp only [look, putC, alook_amod]
    split
    · rename_i e1
      subst e1
      rw [hb]
      simp only [Option.map_some, Blk.putL, Blk.info, List.length_map, hlen, sc1.1]
    · rfl
  have kc : ∀ i off, i ≠ id → look (putC σ id (cs'.map (Cv.ren (rho id gid)))) (.c i off) = look σ (.c i off) := by
    intro i off hi
    simp only [look, putC, alook_amod, if_neg hi]
  have kcid : ∀ off, look (putC σ id (cs'.map (Cv.ren (rho id gid)))) (.c id off) = ((cs'[off]?).map (Cv.ren (rho id gid))).map .cv := by
    intro off
    simp only [look, putC, alook_amod, if_true, hb, Option.map_some, Option.bind_some, Blk.putL, Blk.cell, List.getElem?_map]
  have hS : Sub (look σ) (look (putC σ id (cs'.map (Cv.ren (rho id gid))))) := ⟨fun i hi => by unfold kn at hi ⊢; rw [kk]; exact hi, fun _ hc => hc⟩
  have ad1 : ∀ off, e'.ad 1 off = e.ad id off := fun off => by
    unfold Env.ad; rw [hpl 1 rfl]; rfl
  have kr : look σ0' (.k 1) = some (.bk (.ar T false cs'.length none)) := by simp only [look, hr]; rfl
  have keep : ∀ i b, i ≠ id → look σ (.k i) = some (.bk b) → b.live = true → w'.heap[(e.pl i).1]? = w.heap[(e.pl i).1]? := by
    intro i b hi hbk hl
    refine hp'.fr.block _ (hp.lt i b hbk hl) ?_
    rintro (h2 | h2)
    · exact hp.inj id i _ b k1 hbk rfl hl (Ne.symm hi) h2.symm
    · have := hp.lt i b hbk hl
      omega
  refine ⟨e, Agree.refl _ _, ⟨hp.new, ?_, ?_, ?_, ?_, ?_, ?_, ?_, hp.pin.mono (Agree.refl _ _) hS, ?_⟩, by rw [Sv.free_den hv e' e], Sv.free_sc hv _⟩
  · intro i off x hx
    by_cases hi : i = id
    · subst hi
      rw [kcid] at hx
      obtain ⟨c2, hc2, hc3⟩ := Option.map_eq_some_iff.1 hx
      obtain ⟨c, hc, rfl⟩ := Option.map_eq_some_iff.1 hc2
      obtain rfl : c.ren (rho i gid) = x := by simpa using hc3
      have hin := List.all_eq_true.1 ics' _ (List.mem_of_getElem? hc)
      refine ⟨ren_sc hin kn', ⟨T, false, cs1.length, none, by rw [kk]; exact k1, ?_⟩, ?_⟩
      · have := (List.getElem?_eq_some_iff.1 hc).1
        rw [sc1.1, ← hlen]; exact this
      · have h7 := (hp'.cl 1 off c (by simp only [look, hr, Option.bind_some, Blk.cell, hc]; rfl)).2.2
        rw [ad1] at h7
        rw [h7, Cv.ren_den, inB_den hin hpl]
    · rw [kc i off hi] at hx
      obtain ⟨q1, ⟨t, r, n, cp, q2, q3⟩, q4⟩ := hp.cl i off x hx
      exact ⟨q1.sub hS, ⟨t, r, n, cp, by rw [kk]; exact q2, q3⟩, (World.cell?_of_block (w := w) (keep i _ hi q2 rfl)).trans q4⟩
  · intro i t n cp hx off ho
    rw [kk] at hx
    by_cases hi : i = id
    · subst hi
      rw [k1] at hx
      obtain ⟨rfl, rfl, rfl⟩ : T = t ∧ cs1.length = n ∧ none = cp := by simpa using hx
      have := hp'.ar 1 T cs'.length none kr off (by rw [hlen, ← sc1.1]; exact ho)
      rw [ad1] at this
      exact this
    · have hk := keep i _ hi hx rfl
      have := hp.ar i t n cp hx off ho
      exact ⟨(World.frozen?_of_block (w := w) hk).trans this.1, by rw [World.cell?_of_block (w := w) hk]; exact this.2⟩
  · intro i t r n f cp hx off ho
    rw [kk] at hx
    by_cases hi : i = id
    · subst hi; rw [k1] at hx; cases hx
    · have hk := keep i _ hi hx rfl
      have := hp.oq i t r n f cp hx off ho
      exact ⟨(World.cell?_of_block (w := w) hk).trans this.1, fun hro => (World.frozen?_of_block (w := w) hk).trans (this.2 hro)⟩
  · intro i b c es hx hcp
    rw [kk] at hx
    by_cases hi : i = id
    · subst hi
      rw [k1] at hx
      obtain rfl : BI.ar T false cs1.length none = b := by simpa using hx
      cases hcp
    · have hl : b.live = true := by cases b <;> first | rfl | cases hcp
      obtain ⟨q1, q2, a, q3, q4⟩ := hp.cp i b c es hx hcp
      exact ⟨hS.2 c q1, q2, a, (keep i b hi hx hl).trans q3, q4⟩
  · intro i j b b' hi hj hrw hl hij
    rw [kk] at hi hj
    exact hp.inj i j b b' hi hj hrw hl hij
  · intro i b hi hl
    rw [kk] at hi
    exact Nat.lt_of_lt_of_le (hp.lt i b hi hl) hp'.fr.size
  · intro i b hi hrw
    rw [kk] at hi
    exact hp.mu i b hi hrw
  · have F := hp.fr
    have G := hp'.fr
    refine ⟨G.os.trans F.os, G.tape.trans F.tape, G.output.trans F.output, Nat.le_trans F.size G.size, fun k hk hM => ?_⟩
    refine (G.block k (Nat.lt_of_lt_of_le hk F.size) ?_).trans (F.block k hk hM)
    rintro (h2 | h2)
    · exact hM (h2 ▸ hp.mu id _ k1 rfl)
    · have : w.heap.size ≤ k := h2
      have := F.size
      omega
/-- Cells that come to the same. -/
theorem FunOk.cells {f : FuncId} {args : List Sv} {σ : St} {v : Sv} {id : Nat} {t : TypeId} {ro : Bool} {cs1 A B : List Cv} {cp : Option (Nat × Nat)} (h : FunOk P f args σ v (putC σ id A)) (hb : alook σ.bk id = some (.ar t ro cs1 cp)) (hl : B.length = A.length) (hl1 : B.length = cs1.length)
    (hd : ∀ (e : Env) (j : Nat), (B[j]?).map (Cv.den e) = (A[j]?).map (Cv.den e)) (hs : ∀ c ∈ B, ∀ s : Sto, (∀ i, kn (look σ) i → kn s i) → c.sc s) (hv : v.freeB = true) : FunOk P f args σ v (putC σ id B) := by
  have kk : ∀ i, look (putC σ id B) (.k i) = look (putC σ id A) (.k i) := by
    intro i
    simp only [look, putC, alook_amod]
    split
    · rename_i e1; subst e1
      rw [hb]; simp only [Option.map_some, Blk.putL, Blk.info, hl]
    · rfl
  have kc : ∀ i off, i ≠ id → look (putC σ id B) (.c i off) = look (putC σ id A) (.c i off) := by
    intro i off hi
    simp only [look, putC, alook_amod, if_neg hi]
  have kA : ∀ off, look (putC σ id A) (.c id off) = (A[off]?).map .cv := by
    intro off; simp only [look, putC, alook_amod, if_true, hb, Option.map_some, Option.bind_some, Blk.putL, Blk.cell]
  have kB : ∀ off, look (putC σ id B) (.c id off) = (B[off]?).map .cv := by
    intro off; simp only [look, putC, alook_amod, if_true, hb, Option.map_some, Option.bind_some, Blk.putL, Blk.cell]
  have hS : Sub (look (putC σ id A)) (look (putC σ id B)) := ⟨fun i hi => by unfold kn at hi ⊢; rw [kk]; exact hi, fun _ hc => hc⟩
  have hS0 : ∀ i, kn (look σ) i → kn (look (putC σ id B)) i := by
    intro i hi
    rw [kn_look] at hi ⊢
    simp only [putC, alook_amod]
    split
    · rename_i e1; subst e1; rw [hb]; rfl
    · exact hi
  refine ⟨fun C e w hp ha => (h.run C e w hp ha).mono fun en w' => ?_, ?_⟩
  · rintro ⟨e', hA, hp', rfl, -⟩
    refine ⟨e', hA, ⟨hp'.new, ?_, fun i t n cp hx => hp'.ar i t n cp (by rw [← kk]; exact hx), fun i t r n f cp hx => hp'.oq i t r n f cp (by rw [← kk]; exact hx), fun i b c es hx => hp'.cp i b c es (by rw [← kk]; exact hx), fun i j b b' hx hy => hp'.inj i j b b' (by rw [← kk]; exact hx) (by rw [← kk]; exact hy),
      fun i b hx => hp'.lt i b (by rw [← kk]; exact hx), fun i b hx => hp'.mu i b (by rw [← kk]; exact hx), hp'.pin.mono (Agree.refl _ _) hS, hp'.fr⟩, rfl, Sv.free_sc hv _⟩
    intro i off x hx
    by_cases hi : i = id
    · subst hi
      rw [kB] at hx
      obtain ⟨c, hc, hc2⟩ := Option.map_eq_some_iff.1 hx
      obtain rfl : c = x := by simpa using hc2
      have hlt : off < A.length := by rw [← hl]; exact (List.getElem?_eq_some_iff.1 hc).1
      have h5 := hd e' off
      rw [hc, List.getElem?_eq_getElem hlt] at h5
      have h5 : c.den e' = (A[off]).den e' := by simpa using h5
      obtain ⟨_, ⟨t, r, n, cp, q2, q3⟩, q4⟩ := hp'.cl i off A[off] (by rw [kA, List.getElem?_eq_getElem hlt]; rfl)
      exact ⟨hs c (List.mem_of_getElem? hc) _ hS0, ⟨t, r, n, cp, by rw [kk]; exact q2, q3⟩, by rw [h5]; exact q4⟩
    · rw [kc i off hi] at hx
      obtain ⟨q1, ⟨t, r, n, cp, q2, q3⟩, q4⟩ := hp'.cl i off x hx
      exact ⟨q1.sub hS, ⟨t, r, n, cp, by rw [kk]; exact q2, q3⟩, q4⟩
  · intro i off _ hu
    by_cases hi : i = id
    · subst hi
      have hge : B.length ≤ off := by
        rcases Nat.lt_or_ge off B.length with h1 | h1
        · exfalso
          obtain ⟨v, hv⟩ := mem_cellWrs (id := i) (cs := B) (o := 0) (j := off) h1
          have := List.all_eq_true.1 hu _ (List.mem_append_left _ (List.mem_reverse.2 hv))
          simp at this
        · exact h1
      rw [kB, List.getElem?_eq_none hge]
      simp only [look, hb, Option.bind_some, Blk.cell]
      rw [List.getElem?_eq_none (by omega)]
    · simp only [look, putC, alook_amod, if_neg hi]
end
end Sx
end Go.Proofs.Ytgiinciclnekjaa

/-
  A step of a machine: the states from which it is reckoned.
-/
set_option linter.unusedSimpArgs false
set_option linter.unusedVariables false
namespace Go.Proofs.Ytgiinciclnekjaa
open Sx Go.RowKit
set_option maxRecDepth 100000
/-- The cells behind a machine's guard and phase: cause, marks, held, away, missing, timer, act. -/
def lsM : List Lf := [.i .i64, .b, .b, .b] ++ List.replicate 12 (.i .i64) ++ [.b, .b, .b, .b]
def lsS : List Lf := lsC ++ lsC ++ lsC ++ List.replicate 9 .b ++ [.i .i64, .i .i64, .b, .b]
def stM (p : Int) (n : Nat → Int) (b : Nat → Bool) (m : Nat → Int) : St := stW 95 (.ptr 0 (.lit 0) :: .i .i64 p true :: symL b m 0 lsM) 25 (symL (fun _ => false) n 0 lsG)
/-- A step, from a phase that stands written out. -/
noncomputable def stT (p : Int) (n : Nat → Int) (b : Nat → Bool) (m : Nat → Int) (h : Nat → Bool) (s : Nat → Int) : Tree FLeaf := evFn tbl wr5 spP 300 12 20 [.one (.ptr 1 (.lit 0)), .agg (symL h s 0 lsS)] (stM p n b m)
/-- It hands back an act and an error, and leaves a machine. -/
def okS (T : Tree FLeaf) : Bool := match peelF T with
  | some ([], (.tup [(true, ac), (false, [.i .i64 _ _])], σ)) => isL [.b, .b, .b, .b] ac && match alook σ.bk 1 with
    | some (.ar t false (.ptr 0 (.lit 0) :: .i .i64 _ _ :: cs) none) => Nat.beq t 95 && isL lsM cs
    | _ => false
  | _ => false
end Go.Proofs.Ytgiinciclnekjaa
