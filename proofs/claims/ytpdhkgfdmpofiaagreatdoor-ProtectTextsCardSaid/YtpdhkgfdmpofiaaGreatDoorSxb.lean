/-
  Symbolic values, blocks and stores; what it means that a frame and a world are as a store says; the first steps.
-/
import Derived.Test.YtpdhkgfdmpofiaaGreatDoorSxa
import Derived.Test.YtpdhkgfdmpofiaaGreatDoorSgl
import Derived.Below
import Derived.WalkLawsBesides
set_option linter.unusedSimpArgs false
set_option linter.unusedVariables false
namespace Go.Proofs.YtpdhkgfdmpofiaaGreatDoor
namespace Sx
open Go.RowKit

/-- Which block, and how far into it, a name stands for; which number a capacity's name stands for. -/
structure Env where
  pl : Nat → Nat × Nat
  nm : Nat → Nat
def Env.ad (e : Env) (id off : Nat) : Addr := ⟨(e.pl id).1, (e.pl id).2 + off, none⟩

/-- A number: written out; not written out; one that has a name. -/
inductive Sn where
  | lit (n : Nat)
  | opq (n : Nat)
  | nam (c : Nat)
def Sn.den (e : Env) : Sn → Nat
  | .lit n => n
  | .opq n => n
  | .nam c => e.nm c
inductive Pv where
  | ptr (id off : Nat)
  | val (v : Value) (l : Bool)
/-- What one cell holds. The last Bool of a number or a truth value: it is written out. -/
inductive Cv where
  | b (v l : Bool)
  | i (k : IntKind) (n : Int) (l : Bool)
  | s (v : ByteArray) (l : Bool)
  | ptr (id : Nat) (off : Sn)
  | slc (id : Nat) (off len cap : Sn)
  | fn (f : Fn) (caps : List Pv)
  | val (v : Value)
inductive Sv where
  | one (c : Cv)
  | agg (cs : List Cv)
  | tup (vs : List (Bool × List Cv))

def Pv.den (e : Env) : Pv → Value
  | .ptr id off => .pointer (some (e.ad id off))
  | .val v _ => v
def Cv.den (e : Env) : Cv → Value
  | .b v _ => .bool v
  | .i k n _ => .int k n
  | .s v _ => .string v
  | .ptr id off => .pointer (some (e.ad id (off.den e)))
  | .slc id off len cap => .slice (some (e.ad id (off.den e))) (len.den e) (cap.den e)
  | .fn f caps => .func f #[] (caps.map (·.den e)).toArray
  | .val v => v
def densA (e : Env) (cs : List Cv) : Array Value := (cs.map (·.den e)).toArray
def compDen (e : Env) (p : Bool × List Cv) : Value := if p.1 = true then .agg (densA e p.2) else (p.2.map (·.den e)).headD undef
def Sv.den (e : Env) : Sv → Value
  | .one c => c.den e
  | .agg cs => .agg (densA e cs)
  | .tup vs => .tuple (vs.map (compDen e)).toArray

/-- Places. -/
inductive Loc where
  | t (n : Nat)
  | c (id off : Nat)
  | k (id : Nat)
  | n (c : Nat)
/-- What is known of a block. cp: its capacity's name, and how many cells an element takes: then the block is known to be as large as that. -/
inductive BI where
  | ar (t : TypeId) (ro : Bool) (n : Nat) (cp : Option (Nat × Nat))
  | oq (t : TypeId) (ro : Bool) (n : Nat) (f : Nat → Value) (cp : Option (Nat × Nat))
  | gone
def BI.live : BI → Bool | .gone => false | _ => true
def BI.rw : BI → Bool | .ar _ ro _ _ => !ro | .oq _ ro _ _ _ => !ro | .gone => false
def BI.cp : BI → Option (Nat × Nat) | .ar _ _ _ cp => cp | .oq _ _ _ _ cp => cp | .gone => none
def BI.n : BI → Nat | .ar _ _ n _ => n | .oq _ _ n _ _ => n | .gone => 0
def BI.t : BI → TypeId | .ar t _ _ _ => t | .oq t _ _ _ _ => t | .gone => 0
inductive LV where
  | sv (v : Sv)
  | cv (c : Cv)
  | bk (b : BI)
  | nm
abbrev Sto := Loc → Option LV
def kn (s : Sto) (id : Nat) : Prop := (s (.k id)).isSome = true
def knn (s : Sto) (c : Nat) : Prop := (s (.n c)).isSome = true

/-- Every name that occurs is known. -/
def Sn.sc (s : Sto) : Sn → Prop
  | .nam c => knn s c
  | _ => True
def Pv.sc (s : Sto) : Pv → Prop
  | .ptr id _ => kn s id
  | .val _ _ => True
def Cv.sc (s : Sto) : Cv → Prop
  | .ptr id off => kn s id ∧ off.sc s
  | .slc id off len cap => kn s id ∧ off.sc s ∧ len.sc s ∧ cap.sc s
  | .fn _ caps => ∀ p ∈ caps, p.sc s
  | _ => True
def scs (s : Sto) (cs : List Cv) : Prop := ∀ c ∈ cs, c.sc s
def Sv.sc (s : Sto) : Sv → Prop
  | .one c => c.sc s
  | .agg cs => scs s cs
  | .tup vs => ∀ p ∈ vs, scs s p.2

/-- The store s' knows at least the names that s knows. -/
def Sub (s s' : Sto) : Prop := (∀ id, kn s id → kn s' id) ∧ ∀ c, knn s c → knn s' c
theorem Sub.refl (s : Sto) : Sub s s := ⟨fun _ h => h, fun _ h => h⟩
theorem Sub.trans {a b c : Sto} (h : Sub a b) (k : Sub b c) : Sub a c := ⟨fun i hi => k.1 i (h.1 i hi), fun i hi => k.2 i (h.2 i hi)⟩
theorem Sn.sc.sub {s s' : Sto} (h : Sub s s') {v : Sn} (hv : v.sc s) : v.sc s' := by
  cases v with
  | nam c => exact h.2 _ hv
  | _ => trivial
theorem Pv.sc.sub {s s' : Sto} (h : Sub s s') {v : Pv} (hv : v.sc s) : v.sc s' := by
  cases v with
  | ptr id off => exact h.1 _ hv
  | val v l => trivial
theorem Cv.sc.sub {s s' : Sto} (h : Sub s s') {v : Cv} (hv : v.sc s) : v.sc s' := by
  cases v with
  | ptr id off => exact ⟨h.1 _ hv.1, hv.2.sub h⟩
  | slc id off len cap => exact ⟨h.1 _ hv.1, hv.2.1.sub h, hv.2.2.1.sub h, hv.2.2.2.sub h⟩
  | fn f caps => exact fun p hp => (hv p hp).sub h
  | _ => trivial
theorem scs.sub {s s' : Sto} (h : Sub s s') {cs : List Cv} (hv : scs s cs) : scs s' cs := fun c hc => (hv c hc).sub h
theorem Sv.sc.sub {s s' : Sto} (h : Sub s s') {v : Sv} (hv : v.sc s) : v.sc s' := by
  cases v with
  | one c => exact Cv.sc.sub h hv
  | agg cs => exact scs.sub h hv
  | tup vs => exact fun p hp => scs.sub h (hv p hp)

/-- Two namings agree on what s knows. -/
def Agree (s : Sto) (e e' : Env) : Prop := (∀ id, kn s id → e'.pl id = e.pl id) ∧ ∀ c, knn s c → e'.nm c = e.nm c
theorem Agree.refl (s : Sto) (e : Env) : Agree s e e := ⟨fun _ _ => rfl, fun _ _ => rfl⟩
theorem Agree.ad {s : Sto} {e e' : Env} (h : Agree s e e') {id off : Nat} (hk : kn s id) : e'.ad id off = e.ad id off := by
  unfold Env.ad; rw [h.1 id hk]
theorem Sn.den_agree {s : Sto} {e e' : Env} (h : Agree s e e') {v : Sn} (hv : v.sc s) : v.den e' = v.den e := by
  cases v with
  | nam c => exact h.2 _ hv
  | _ => rfl
theorem Pv.den_agree {s : Sto} {e e' : Env} (h : Agree s e e') {v : Pv} (hv : v.sc s) : v.den e' = v.den e := by
  cases v with
  | ptr id off => simp only [Pv.den]; rw [h.ad hv]
  | val v l => rfl
theorem Cv.den_agree {s : Sto} {e e' : Env} (h : Agree s e e') {v : Cv} (hv : v.sc s) : v.den e' = v.den e := by
  cases v with
  | ptr id off => simp only [Cv.den]; rw [h.ad hv.1, Sn.den_agree h hv.2]
  | slc id off len cap => simp only [Cv.den]; rw [h.ad hv.1, Sn.den_agree h hv.2.1, Sn.den_agree h hv.2.2.1, Sn.den_agree h hv.2.2.2]
  | fn f caps =>
    simp only [Cv.den]
    rw [List.map_congr_left fun p hp => Pv.den_agree h (hv p hp)]
  | _ => rfl
theorem densA_agree {s : Sto} {e e' : Env} (h : Agree s e e') {cs : List Cv} (hv : scs s cs) : densA e' cs = densA e cs := by
  unfold densA; rw [List.map_congr_left fun c hc => Cv.den_agree h (hv c hc)]
theorem Sv.den_agree {s : Sto} {e e' : Env} (h : Agree s e e') {v : Sv} (hv : v.sc s) : v.den e' = v.den e := by
  cases v with
  | one c => exact Cv.den_agree h hv
  | agg cs => simp only [Sv.den]; rw [densA_agree h hv]
  | tup vs =>
    simp only [Sv.den]
    rw [List.map_congr_left fun p hp => ?_]
    unfold compDen
    rw [densA_agree h (hv p hp), List.map_congr_left fun c hc => Cv.den_agree h (hv p hp c hc)]

/-- What was there before, and may not be written, is as it was. -/
structure Fr (M : Nat → Prop) (w0 w : World) : Prop where
  os : w.os = w0.os
  tape : w.tape = w0.tape
  output : w.output = w0.output
  size : w0.heap.size ≤ w.heap.size
  block : ∀ k, k < w0.heap.size → ¬ M k → w.heap[k]? = w0.heap[k]?
  gl : GlobW M w0
theorem Fr.glob {M M' : Nat → Prop} {w0 w : World} (h : Fr M w0 w) (hM : ∀ k, k < w0.heap.size → M' k → M k) : GlobW M' w :=
  ⟨h.gl.1.kept fun g hg => h.block g (h.gl.2 g hg).2 (h.gl.2 g hg).1, fun g hg => ⟨fun hm => (h.gl.2 g hg).1 (hM g (h.gl.2 g hg).2 hm), Nat.lt_of_lt_of_le (h.gl.2 g hg).2 h.size⟩⟩
theorem Fr.glob0 {M : Nat → Prop} {w0 w : World} (h : Fr M w0 w) : Glob0 w := h.glob fun k hk hm => absurd hm (by have := h.size; omega)
structure Ctx where
  M : Nat → Prop
  pin : Nat → Option (Nat × Nat)
  pinn : Nat → Option Nat
  w0 : World

/-- The names that stand fast. -/
def Pins (C : Ctx) (e : Env) (s : Sto) : Prop := (∀ id p, C.pin id = some p → e.pl id = p ∧ kn s id) ∧ ∀ c m, C.pinn c = some m → e.nm c = m ∧ knn s c
theorem Pins.mono {C : Ctx} {e e' : Env} {s s' : Sto} (h : Pins C e s) (hA : Agree s e e') (hS : Sub s s') : Pins C e' s' :=
  ⟨fun id p hp => ⟨(hA.1 id (h.1 id p hp).2).trans (h.1 id p hp).1, hS.1 id (h.1 id p hp).2⟩, fun c m hm => ⟨(hA.2 c (h.2 c m hm).2).trans (h.2 c m hm).1, hS.2 c (h.2 c m hm).2⟩⟩
/-- Memory is as the store says. -/
structure Hp (C : Ctx) (e : Env) (s : Sto) (w : World) : Prop where
  new : ∀ k, C.w0.heap.size ≤ k → C.M k
  cl : ∀ id off v, s (.c id off) = some (.cv v) → v.sc s ∧ (∃ t ro n cp, s (.k id) = some (.bk (.ar t ro n cp)) ∧ off < n) ∧ w.cell? (e.ad id off) = some (v.den e)
  ar : ∀ id t n cp, s (.k id) = some (.bk (.ar t false n cp)) → ∀ off, off < n → w.frozen? (e.ad id off) = false ∧ (w.cell? (e.ad id off)).isSome = true
  oq : ∀ id t ro n f cp, s (.k id) = some (.bk (.oq t ro n f cp)) → ∀ off, off < n → w.cell? (e.ad id off) = some (f off) ∧ (ro = false → w.frozen? (e.ad id off) = false)
  cp : ∀ id b c es, s (.k id) = some (.bk b) → b.cp = some (c, es) → knn s c ∧ (e.pl id).2 = 0 ∧ ∃ cs, w.heap[(e.pl id).1]? = some (.cells cs b.t (0, 0)) ∧ cs.size = e.nm c * es ∧ b.n ≤ cs.size
  inj : ∀ id id' b b', s (.k id) = some (.bk b) → s (.k id') = some (.bk b') → b.rw = true → b'.live = true → id ≠ id' → (e.pl id).1 ≠ (e.pl id').1
  lt : ∀ id b, s (.k id) = some (.bk b) → b.live = true → (e.pl id).1 < w.heap.size
  mu : ∀ id b, s (.k id) = some (.bk b) → b.rw = true → C.M (e.pl id).1
  pin : Pins C e s
  fr : Fr C.M C.w0 w
structure Rel (C : Ctx) (N : Nat) (e : Env) (s : Sto) (a : Act) (w : World) : Prop where
  sz : a.tmps.size = N
  df : a.defers = []
  tm : ∀ t v, s (.t t) = some (.sv v) → t < N ∧ a.tmps.getD t undef = v.den e ∧ v.sc s
  hp : Hp C e s w

/-- What is written. -/
inductive Blk where
  | ar (t : TypeId) (ro : Bool) (cs : List Cv) (cp : Option (Nat × Nat))
  | oq (t : TypeId) (ro : Bool) (n : Nat) (f : Nat → Value) (cp : Option (Nat × Nat))
  | gone
def Blk.info : Blk → BI
  | .ar t ro cs cp => .ar t ro cs.length cp
  | .oq t ro n f cp => .oq t ro n f cp
  | .gone => .gone
def Blk.cell : Blk → Nat → Option Cv
  | .ar _ _ cs _, o => cs[o]?
  | _, _ => none
inductive Wr where
  | tm (n : Nat) (v : Sv)
  | ft (n : Nat)
  | cell (id off : Nat) (v : Cv)
  | new (id : Nat) (b : Blk)
  | nm (c : Nat)
def Wr.fn : Wr → Loc → Option (Option LV)
  | .tm n v, .t m => if m = n then some (some (.sv v)) else none
  | .ft n, .t m => if m = n then some none else none
  | .cell id off v, .c i o => if i = id ∧ o = off then some (some (.cv v)) else none
  | .new id b, .k i => if i = id then some (some (.bk b.info)) else none
  | .new id b, .c i o => if i = id then some ((b.cell o).map .cv) else none
  | .nm c, .n d => if d = c then some (some .nm) else none
  | _, _ => none
def Wr.upd (x : Wr) (s : Sto) : Sto := fun l => (x.fn l).getD (s l)
def upds (s : Sto) (ws : List Wr) : Sto := ws.foldl (fun s x => x.upd s) s
def fns : List Wr → Loc → Option (Option LV)
  | [], _ => none
  | x :: ws, l => match fns ws l with
    | some y => some y
    | none => x.fn l
theorem upds_fns (ws : List Wr) : ∀ s : Sto, upds s ws = fun l => (fns ws l).getD (s l) := by
  induction ws with
  | nil => intro s; rfl
  | cons x ws ih =>
    intro s
    show upds (x.upd s) ws = _
    rw [ih]
    funext l
    simp only [fns]
    cases fns ws l with
    | some y => rfl
    | none => rfl
end Sx
end Go.Proofs.YtpdhkgfdmpofiaaGreatDoor
