/-
  Values that are written out before something goes on: nothing but themselves.
-/
import Derived.Test.YtpdhkgfdmpofiaaGreatDoorSxd
set_option linter.unusedSimpArgs false
set_option linter.unusedVariables false
namespace Go.Proofs.YtpdhkgfdmpofiaaGreatDoor
namespace Sx
open Go.RowKit

section
variable {β : Type}
def fB (b : Bool) (k : Bool → β) : β := match b with
  | true => k true
  | false => k false
theorem fB_eq {b : Bool} {k : Bool → β} : fB b k = k b := by cases b <;> rfl
def fN (n : Nat) (k : Nat → β) : β := match n with
  | 0 => k 0
  | m + 1 => k (Nat.succ m)
theorem fN_eq {n : Nat} {k : Nat → β} : fN n k = k n := by cases n <;> rfl
def fI (n : Int) (k : Int → β) : β := match n with
  | .ofNat a => fN a fun a => k (.ofNat a)
  | .negSucc a => fN a fun a => k (.negSucc a)
theorem fI_eq {n : Int} {k : Int → β} : fI n k = k n := by cases n <;> simp only [fI, fN_eq]
def fK (c : IntKind) (k : IntKind → β) : β := match c with
  | .i8 => k .i8
  | .i16 => k .i16
  | .i32 => k .i32
  | .i64 => k .i64
  | .u8 => k .u8
  | .u16 => k .u16
  | .u32 => k .u32
  | .u64 => k .u64
theorem fK_eq {c : IntKind} {k : IntKind → β} : fK c k = k c := by cases c <;> rfl
def fL {α : Type} (f : α → (α → β) → β) : List α → (List α → β) → β
  | [], k => k []
  | a :: l, k => f a fun a => fL f l fun l => k (a :: l)
theorem fL_eq {α : Type} {f : α → (α → β) → β} (hf : ∀ a k, f a k = k a) : ∀ {l : List α} {k : List α → β}, fL f l k = k l
  | [], _ => rfl
  | a :: l, k => by
    unfold fL
    rw [hf, fL_eq hf]
def fO {α : Type} (f : α → (α → β) → β) : Option α → (Option α → β) → β
  | none, k => k none
  | some a, k => f a fun a => k (some a)
theorem fO_eq {α : Type} {f : α → (α → β) → β} (hf : ∀ a k, f a k = k a) {l : Option α} {k : Option α → β} : fO f l k = k l := by
  cases l with
  | none => rfl
  | some a => simp only [fO, hf]
def fS (n : Sn) (k : Sn → β) : β := match n with
  | .lit n => fN n fun n => k (.lit n)
  | .opq n => k (.opq n)
  | .nam c => fN c fun c => k (.nam c)
theorem fS_eq {n : Sn} {k : Sn → β} : fS n k = k n := by
  cases n <;> simp only [fS, fN_eq]
def fPv (n : Pv) (k : Pv → β) : β := match n with
  | .ptr i o => fN i fun i => fN o fun o => k (.ptr i o)
  | .val v l => k (.val v l)
theorem fPv_eq {n : Pv} {k : Pv → β} : fPv n k = k n := by
  cases n <;> simp only [fPv, fN_eq]
theorem fL_fPv {l : List Pv} {k : List Pv → β} : fL fPv l k = k l := fL_eq fun _ _ => fPv_eq
def fFn (f : Fn) (k : Fn → β) : β := match f with
  | .func n => fN n fun n => k (.func n)
  | f => k f
theorem fFn_eq {f : Fn} {k : Fn → β} : fFn f k = k f := by
  cases f <;> simp only [fFn, fN_eq]
def fC (c : Cv) (k : Cv → β) : β := match c with
  | .b v l => match l with
    | true => fB v fun v => k (.b v true)
    | false => k (.b v false)
  | .i c n l => fK c fun c => match l with
    | true => fI n fun n => k (.i c n true)
    | false => k (.i c n false)
  | .s v l => fB l fun l => k (.s v l)
  | .ptr i o => fN i fun i => fS o fun o => k (.ptr i o)
  | .slc i o n c => fN i fun i => fS o fun o => fS n fun n => fS c fun c => k (.slc i o n c)
  | .fn f caps => fFn f fun f => fL fPv caps fun caps => k (.fn f caps)
  | .val v => k (.val v)
theorem fC_eq {c : Cv} {k : Cv → β} : fC c k = k c := by
  cases c with
  | b v l => cases l <;> simp only [fC, fB_eq]
  | i c n l => cases l <;> simp only [fC, fK_eq, fI_eq]
  | s v l => simp only [fC, fB_eq]
  | ptr i o => simp only [fC, fN_eq, fS_eq]
  | slc i o n c => simp only [fC, fN_eq, fS_eq]
  | fn f caps => simp only [fC, fFn_eq, fL_fPv]
  | val v => rfl
theorem fL_fC {l : List Cv} {k : List Cv → β} : fL fC l k = k l := fL_eq fun _ _ => fC_eq
def fV (v : Sv) (k : Sv → β) : β := match v with
  | .one c => fC c fun c => k (.one c)
  | .agg cs => fL fC cs fun cs => k (.agg cs)
  | .tup vs => fL (fun p k => fB p.1 fun b => fL fC p.2 fun cs => k (b, cs)) vs fun vs => k (.tup vs)
theorem fV_eq {v : Sv} {k : Sv → β} : fV v k = k v := by
  cases v with
  | one c => simp only [fV, fC_eq]
  | agg cs => simp only [fV, fL_fC]
  | tup vs => exact fL_eq fun p k => by simp only [fB_eq, fL_fC]
def fCp (p : Option (Nat × Nat)) (k : Option (Nat × Nat) → β) : β := match p with
  | none => k none
  | some (a, b) => fN a fun a => fN b fun b => k (some (a, b))
theorem fCp_eq {p : Option (Nat × Nat)} {k : Option (Nat × Nat) → β} : fCp p k = k p := by
  cases p with
  | none => rfl
  | some p => simp only [fCp, fN_eq]
/-- A block; its cells too. -/
def fBk (b : Blk) (k : Blk → β) : β := match b with
  | .ar t ro cs cp => fN t fun t => fB ro fun ro => fL fC cs fun cs => fCp cp fun cp => k (.ar t ro cs cp)
  | .oq t ro n f cp => fN t fun t => fB ro fun ro => fCp cp fun cp => k (.oq t ro n f cp)
  | .gone => k .gone
theorem fBk_eq {b : Blk} {k : Blk → β} : fBk b k = k b := by
  cases b <;> simp only [fBk, fN_eq, fB_eq, fL_fC, fCp_eq]
/-- A block; its cells stand written out already. -/
def fBs (b : Blk) (k : Blk → β) : β := match b with
  | .ar t ro cs cp => fB ro fun ro => k (.ar t ro cs cp)
  | .oq t ro n f cp => fB ro fun ro => k (.oq t ro n f cp)
  | .gone => k .gone
theorem fBs_eq {b : Blk} {k : Blk → β} : fBs b k = k b := by
  cases b <;> simp only [fBs, fB_eq]
def fWr (x : Wr) (k : Wr → β) : β := match x with
  | .tm n v => fN n fun n => fV v fun v => k (.tm n v)
  | .ft n => fN n fun n => k (.ft n)
  | .cell id off v => fN id fun id => fN off fun off => fC v fun v => k (.cell id off v)
  | .new id b => fN id fun id => fBk b fun b => k (.new id b)
  | .nm c => fN c fun c => k (.nm c)
theorem fWr_eq {x : Wr} {k : Wr → β} : fWr x k = k x := by
  cases x <;> simp only [fWr, fN_eq, fV_eq, fC_eq, fBk_eq]
theorem fL_fWr {l : List Wr} {k : List Wr → β} : fL fWr l k = k l := fL_eq fun _ _ => fWr_eq
def fLoc (x : Loc) (k : Loc → β) : β := match x with
  | .t n => fN n fun n => k (.t n)
  | .c i o => fN i fun i => fN o fun o => k (.c i o)
  | .k i => fN i fun i => k (.k i)
  | .n c => fN c fun c => k (.n c)
theorem fLoc_eq {x : Loc} {k : Loc → β} : fLoc x k = k x := by
  cases x <;> simp only [fLoc, fN_eq]
theorem fL_fLoc {l : List Loc} {k : List Loc → β} : fL fLoc l k = k l := fL_eq fun _ _ => fLoc_eq
def fE (E : OpE) (k : OpE → β) : β := match E with
  | ⟨v, rl, ws⟩ => fO fV v fun v => fL fWr ws fun ws => k ⟨v, rl, ws⟩
theorem fE_eq {E : OpE} {k : OpE → β} : fE E k = k E := by
  cases E
  simp only [fE, fO_eq (fun _ _ => fV_eq), fL_fWr]

def fId {α : Type} (a : α) (k : α → β) : β := k a
theorem fL_fId {α : Type} {l : List α} {k : List α → β} : fL fId l k = k l := fL_eq fun _ _ => rfl

/-! A step of a state that stands written out, to another. -/
def fset {α : Type} : List α → Nat → α → (List α → β) → β
  | [], _, _, k => k []
  | _ :: l, 0, v, k => k (v :: l)
  | x :: l, n + 1, v, k => fset l n v fun l => k (x :: l)
theorem fset_eq {α : Type} : ∀ {l : List α} {n : Nat} {v : α} {k : List α → β}, fset l n v k = k (lset l n v)
  | [], _, _, _ => rfl
  | _ :: _, 0, _, _ => rfl
  | x :: l, n + 1, v, k => by
    simp only [fset, lset]
    exact fset_eq (l := l) (n := n)
def fSetc (off : Nat) (v : Cv) (b : Blk) (k : Blk → β) : β := match b with
  | .ar t ro cs cp => fset cs off v fun cs => k (.ar t ro cs cp)
  | b => k b
theorem fSetc_eq {off : Nat} {v : Cv} {b : Blk} {k : Blk → β} : fSetc off v b k = k (b.setc off v) := by
  cases b with
  | ar t ro cs cp => simp only [fSetc, Blk.setc, fset_eq]
  | oq => rfl
  | gone => rfl
def fmod {α : Type} (f : α → (α → β) → β) : List (Nat × α) → Nat → (List (Nat × α) → β) → β
  | [], _, k => k []
  | (i, x) :: l, n, k => match Nat.beq i n with
    | true => f x fun x => k ((i, x) :: l)
    | false => fmod f l n fun l => k ((i, x) :: l)
def fdel {α : Type} : List (Nat × α) → Nat → (List (Nat × α) → β) → β
  | [], _, k => k []
  | (i, x) :: l, n, k => match Nat.beq i n with
    | true => fdel l n k
    | false => fdel l n fun l => k ((i, x) :: l)
theorem fmod_eq {α : Type} {f : α → (α → β) → β} {g : α → α} (hf : ∀ a k, f a k = k (g a)) : ∀ {l : List (Nat × α)} {n : Nat} {k : List (Nat × α) → β}, fmod f l n k = k (amod g l n)
  | [], _, _ => rfl
  | (i, x) :: l, n, k => by
    simp only [fmod, amod]
    cases hb : Nat.beq i n with
    | true => exact hf _ _
    | false => exact fmod_eq hf (l := l) (k := fun l => k ((i, x) :: l))
theorem fdel_eq {α : Type} : ∀ {l : List (Nat × α)} {n : Nat} {k : List (Nat × α) → β}, fdel l n k = k (adel l n)
  | [], _, _ => rfl
  | (i, x) :: l, n, k => by
    simp only [fdel, adel]
    cases hb : Nat.beq i n with
    | true => exact fdel_eq (l := l)
    | false => exact fdel_eq (l := l) (k := fun l => k ((i, x) :: l))
def fapp (σ : St) (x : Wr) (k : St → β) : β := match σ with
  | ⟨tm, bk, nx, nl, nn, lg, vr⟩ => match x with
    | .tm n v => k ⟨(n, v) :: tm, bk, nx, nl, nn, .tm n v :: lg, vr⟩
    | .ft n => fdel tm n fun tm => k ⟨tm, bk, nx, nl, nn, .ft n :: lg, vr⟩
    | .cell id off v => fmod (fSetc off v) bk id fun bk => k ⟨tm, bk, nx, nl, nn, .cell id off v :: lg, vr⟩
    | .new id b => fdel bk id fun bk => fN (nmax nx (id + 1)) fun nx => k ⟨tm, (id, b) :: bk, nx, nl, nn, .new id b :: lg, vr⟩
    | .nm c => fN (nmax nn (c + 1)) fun nn => k ⟨tm, bk, nx, c :: nl, nn, .nm c :: lg, vr⟩
theorem fapp_eq {σ : St} {x : Wr} {k : St → β} : fapp σ x k = k (σ.app x) := by
  cases σ
  cases x with
  | tm n v => rfl
  | ft n => simp only [fapp, fdel_eq, St.app]
  | cell id off v => exact fmod_eq (g := Blk.setc off v) fun _ _ => fSetc_eq
  | new id b => simp only [fapp, fdel_eq, fN_eq, St.app]
  | nm c => simp only [fapp, fN_eq, St.app]
def fapps : List Wr → St → (Option St → β) → β
  | [], σ, k => k (some σ)
  | x :: xs, σ, k => match okW σ x with
    | true => fapp σ x fun σ => fapps xs σ k
    | false => k none
theorem fapps_eq : ∀ {xs : List Wr} {σ : St} {k : Option St → β}, fapps xs σ k = k (σ.apps xs)
  | [], _, _ => rfl
  | x :: xs, σ, k => by
    simp only [fapps, St.apps]
    cases hb : okW σ x with
    | true => exact fapp_eq.trans (fapps_eq (xs := xs))
    | false => rfl
/-- The state at a function's entry. -/
def fEnt (σ : St) (k : St → β) : β := match σ with
  | ⟨tm, bk, nx, nl, nn, lg, vr⟩ => fL (fun p k => fN p.1 fun i => fV p.2 fun v => k (i, v)) tm fun tm => fL (fun p k => fN p.1 fun i => fBs p.2 fun b => k (i, b)) bk fun bk =>
    fN nx fun nx => fL fN nl fun nl => fN nn fun nn => k ⟨tm, bk, nx, nl, nn, lg, vr⟩
theorem fEnt_eq {σ : St} {k : St → β} : fEnt σ k = k σ := by
  cases σ
  simp only [fEnt, fL_eq (fun _ _ => fN_eq), fN_eq]
  rw [fL_eq (fun p k => by simp only [fV_eq]), fL_eq (fun p k => by simp only [fBs_eq])]
end
end Sx
end Go.Proofs.YtpdhkgfdmpofiaaGreatDoor
