/-
  What a function hands back, told in plain numbers and truth values.
-/
import Derived.Test.YtpdhkgfdmpofiaaGreatDoorSxt
set_option linter.unusedSimpArgs false
set_option linter.unusedVariables false
namespace Go.Proofs.YtpdhkgfdmpofiaaGreatDoor
namespace Sx
open Go.RowKit

inductive Lv where
  | b (v : Bool)
  | i (k : IntKind) (n : Int)
inductive Vv where
  | one (x : Lv)
  | agg (xs : List Lv)
  | tup (xs : List (Bool × List Lv))
def Lv.cv : Lv → Cv
  | .b v => .b v false
  | .i k n => .i k n false
def Lv.val : Lv → Value
  | .b v => .bool v
  | .i k n => .int k n
def Cv.lv : Cv → Option Lv
  | .b v _ => some (.b v)
  | .i k n _ => some (.i k n)
  | _ => none
def lvs : List Cv → Option (List Lv)
  | [] => some []
  | c :: cs => match c.lv, lvs cs with
    | some x, some xs => some (x :: xs)
    | _, _ => none
def lvt : List (Bool × List Cv) → Option (List (Bool × List Lv))
  | [] => some []
  | p :: ps => match lvs p.2, lvt ps with
    | some x, some xs => some ((p.1, x) :: xs)
    | _, _ => none
def Sv.vv : Sv → Option Vv
  | .one c => c.lv.map .one
  | .agg cs => (lvs cs).map .agg
  | .tup vs => (lvt vs).map .tup
def Vv.sv : Vv → Sv
  | .one x => .one x.cv
  | .agg xs => .agg (xs.map Lv.cv)
  | .tup xs => .tup (xs.map fun p => (p.1, p.2.map Lv.cv))
theorem Cv.lv_den {c : Cv} {x : Lv} (h : c.lv = some x) (e e' : Env) : c.den e = x.cv.den e' := by
  cases c <;> simp only [Cv.lv, Option.some.injEq, reduceCtorEq] at h <;> subst h <;> rfl
theorem lvs_den : ∀ {cs : List Cv} {xs : List Lv}, lvs cs = some xs → ∀ e e', cs.map (·.den e) = (xs.map Lv.cv).map (·.den e')
  | [], xs, h, e, e' => by obtain rfl := Option.some.inj h; rfl
  | c :: cs, xs, h, e, e' => by
    simp only [lvs] at h
    split at h
    · rename_i x xs' h1 h2
      obtain rfl := Option.some.inj h
      simp only [List.map_cons]
      rw [Cv.lv_den h1 e e', lvs_den h2 e e']
    · cases h
theorem lvt_den : ∀ {ps : List (Bool × List Cv)} {xs : List (Bool × List Lv)}, lvt ps = some xs → ∀ e e', ps.map (compDen e) = (xs.map fun p => (p.1, p.2.map Lv.cv)).map (compDen e')
  | [], xs, h, e, e' => by obtain rfl := Option.some.inj h; rfl
  | p :: ps, xs, h, e, e' => by
    simp only [lvt] at h
    split at h
    · rename_i x xs' h1 h2
      obtain rfl := Option.some.inj h
      have h3 := lvs_den h1 e e'
      have h4 := lvt_den h2 e e'
      simp only [List.map_cons]
      rw [h4]
      congr 1
      simp only [compDen, densA]
      rw [h3]
    · cases h
theorem Sv.vv_den {v : Sv} {x : Vv} (h : v.vv = some x) (e e' : Env) : v.den e = x.sv.den e' := by
  cases v with
  | one c =>
    obtain ⟨y, hy, rfl⟩ := Option.map_eq_some_iff.1 h
    exact Cv.lv_den hy e e'
  | agg cs =>
    obtain ⟨y, hy, rfl⟩ := Option.map_eq_some_iff.1 h
    show Value.agg (cs.map _).toArray = Value.agg ((y.map Lv.cv).map _).toArray
    rw [lvs_den hy e e']
  | tup vs =>
    obtain ⟨y, hy, rfl⟩ := Option.map_eq_some_iff.1 h
    show Value.tuple (vs.map _).toArray = Value.tuple ((y.map _).map _).toArray
    rw [lvt_den hy e e']
theorem Lv.cv_free (x : Lv) : x.cv.freeB = true := by cases x <;> rfl
theorem lv_free (xs : List Lv) : (xs.map Lv.cv).all Cv.freeB = true := by
  rw [List.all_eq_true]
  intro c hc
  obtain ⟨x, _, rfl⟩ := List.mem_map.1 hc
  exact Lv.cv_free x
theorem Vv.sv_free (x : Vv) : x.sv.freeB = true := by
  cases x with
  | one x => exact Lv.cv_free x
  | agg xs => exact lv_free xs
  | tup xs =>
    show List.all _ _ = true
    rw [List.all_eq_true]
    intro p hp
    obtain ⟨q, _, rfl⟩ := List.mem_map.1 hp
    exact lv_free q.2

section
variable {P : Program} {tb : Tb}
/-- The one way that is left, what it demands, and what it hands back. -/
def res (T : Tree FLeaf) : Option (List Bool × Vv) := match peelF T with
  | some (l, (v, _)) => match v.vv with
    | some x => some (l, x)
    | none => none
  | none => none
theorem res_at {T : Tree FLeaf} {l : List Bool} {x : Vv} (h : res T = some (l, x)) (hl : ∀ b ∈ l, b = true) : ∃ y, T.At y ∧ y.1.vv = some x := by
  unfold res at h
  split at h
  · rename_i l' v σ hp
    split at h
    · rename_i x' hx
      obtain ⟨rfl, rfl⟩ := Prod.mk.inj (Option.some.inj h)
      exact ⟨(v, σ), peelF_at hp hl, hx⟩
    · cases h
  · cases h
theorem FunOk.val {f : FuncId} {args : List Sv} {σ σ' : St} {v u : Sv} (h : FunOk P f args σ v σ') (hd : ∀ e, v.den e = u.den e) (hu : u.freeB = true) : FunOk P f args σ u σ' := by
  refine ⟨fun C e w hp hs => ?_, h.keep⟩
  refine (h.run C e w hp hs).mono fun en w' => ?_
  rintro ⟨e', h1, h2, rfl, -⟩
  exact ⟨e', h1, h2, by rw [hd e'], Sv.free_sc hu _⟩
theorem res_ok {wf : List FuncId} {sp : FuncId → Option (List Sv → St → Tree FLeaf)} {fuel d f : Nat} (hT : TbOk P tb) (hm : P.follows .mixedOrders = true) (hs : SpOk P sp) {args : List Sv} {σ : St} {l : List Bool} {x : Vv}
    (h : res (evFn tb wf sp fuel d f args σ) = some (l, x)) (hl : ∀ b ∈ l, b = true) : ∃ σ', FunOk P f args σ x.sv σ' := by
  obtain ⟨y, h1, h2⟩ := res_at h hl
  exact ⟨y.2, (evFn_at hT hm hs h1).val (fun e => Sv.vv_den h2 e e) x.sv_free⟩
/-- A function of plain values: what it hands back, in any world. -/
theorem res_any {wf : List FuncId} {sp : FuncId → Option (List Sv → St → Tree FLeaf)} {fuel d f : Nat} (hT : TbOk P tb) (hm : P.follows .mixedOrders = true) (hs : SpOk P sp) {args : List Sv} (hargs : ∀ x ∈ args, x.freeB = true) {l : List Bool} {x : Vv}
    (h : res (evFn tb wf sp fuel d f args st0) = some (l, x)) (hl : ∀ b ∈ l, b = true) (w : World) (hG : Glob0 w := by exact glob0 w) : Calls P f (args.map (·.den env0)).toArray w fun en w' => en = .returned (x.sv.den env0) ∧ Below w.heap.size w w' := by
  obtain ⟨σ', h1⟩ := res_ok hT hm hs h hl
  exact h1.any hargs x.sv_free w hG

/-! Arguments that are numbers and truth values: the names that stand for them. -/
def canon (ls : List Lf) (cs : List Cv) : List Cv := symL (bOf cs) (nOf cs) 0 ls
theorem canon_den {ls : List Lf} {cs : List Cv} (h : isL ls cs = true) (e e' : Env) : (Sv.agg cs).den e = (Sv.agg (canon ls cs)).den e' := by
  show Value.agg (densA e cs) = Value.agg (densA e' (canon ls cs))
  congr 1
  unfold densA canon
  congr 1
  apply List.ext_getElem?
  intro i
  rw [List.getElem?_map, List.getElem?_map]
  exact isL_den h (fun i => by rw [Nat.zero_add]) e e' i
end
end Sx
end Go.Proofs.YtpdhkgfdmpofiaaGreatDoor
