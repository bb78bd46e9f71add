/-
  What each operation comes to: memory.
-/
import Derived.Test.YtpdhkgfdmpofiaaGreatDoorSxf
import Derived.Laws.AppendOwn
import Derived.Laws.OwnMore
set_option linter.unusedSimpArgs false
set_option linter.unusedVariables false
namespace Go.Proofs.YtpdhkgfdmpofiaaGreatDoor
namespace Sx
open Go.RowKit

section
variable {P : Program} {σ : St} {o : Oper} {tb : Tb}

theorem den_ptr (e : Env) (id : Nat) (off : Sn) : Sv.den e (.one (.ptr id off)) = .pointer (some (e.ad id (off.den e))) := rfl
theorem den_agg (e : Env) (cs : List Cv) : Sv.den e (.agg cs) = .agg (densA e cs) := rfl
def Cv.plainB : Cv → Bool
  | .val (.agg _) => false
  | .val (.tuple _) => false
  | _ => true
theorem Cv.plain_cell {c : Cv} (h : c.plainB = true) (e : Env) : (c.den e).oneCell' = true ∧ (c.den e).cells = #[c.den e] := by
  cases c with
  | val v => cases v <;> first | exact ⟨rfl, rfl⟩ | cases h
  | _ => exact ⟨rfl, rfl⟩
/-- The cells of a value. -/
def Sv.cs : Sv → Option (List Cv)
  | .one c => match c.plainB with
    | true => some [c]
    | false => none
  | .agg cs => match cs.all Cv.plainB with
    | true => some cs
    | false => none
  | .tup _ => none
theorem Sv.cs_ok {v : Sv} {cs : List Cv} (h : v.cs = some cs) : (∀ e, (v.den e).cells = densA e cs) ∧ (∀ s, v.sc s → scs s cs) ∧ ∀ c ∈ cs, c.plainB = true := by
  cases v with
  | one c =>
    simp only [Sv.cs] at h
    split at h
    · rename_i hp
      obtain rfl := Option.some.inj h
      refine ⟨fun e => (Cv.plain_cell hp e).2, fun s hs x hx => ?_, fun x hx => ?_⟩
      · obtain rfl : x = c := by simpa using hx
        exact hs
      · obtain rfl : x = c := by simpa using hx
        exact hp
    · cases h
  | agg l =>
    simp only [Sv.cs] at h
    split at h
    · rename_i hp
      obtain rfl := Option.some.inj h
      exact ⟨fun e => rfl, fun s hs => hs, fun c hc => List.all_eq_true.1 hp c hc⟩
    · cases h
  | tup _ => cases h

/-! new blocks -/
def free (σ : St) : Bool := (alook σ.bk σ.nx).isNone
theorem free_look (h : free σ = true) : look σ (.k σ.nx) = none := by
  unfold free at h
  simp only [look]
  rw [show alook σ.bk σ.nx = none by simpa using h]
  simp
def newT (σ : St) (v : Nat → Sv) (b : Blk) : Tree OpE := match free σ with
  | true => .leaf ⟨some (v σ.nx), [.k σ.nx], [.new σ.nx b]⟩
  | false => .fail
theorem newT_ok {v : Nat → Sv} {b : Blk} (h : ∀ (s : Sto) (e : Env) (a : Act) (w : World), (∀ x ∈ o.op.operands, Sees σ s e a x) → ∃ xs, Fits e s xs b ∧ (execOp a.eval o).run P w = .ok (.value ((v σ.nx).den (e.setPl σ.nx (w.heap.size, 0)))) (w.alloc (.cells xs b.info.t)))
    (hv : ∀ s, kn s σ.nx → (v σ.nx).sc s) : TreeOk P σ o (newT σ v b) := by
  unfold newT
  split
  · rename_i hf
    refine TreeOk.leaf fun C e s a w hp hx hl => ?_
    obtain ⟨xs, h1, h2⟩ := h s e a w hx
    have hid : s (.k σ.nx) = none := (hl _ (by simp)).trans (free_look hf)
    obtain ⟨p1, p2⟩ := hp.alloc hid h1
    refine ⟨_, _, _, h2, p2, p1, rfl, hv _ ?_⟩
    show kn ((Wr.new σ.nx b).upd s) σ.nx
    unfold kn
    rw [new_k, if_pos rfl]
    rfl
  · exact TreeOk.fail
theorem fits_ar {e : Env} {s : Sto} {t : TypeId} {cs : List Cv} (h : scs s cs) : Fits e s (densA e cs) (.ar t false cs none) :=
  ⟨h, fun j c hc => by simp [densA, hc], fun c es he => by cases he⟩
def zeroL (tb : Tb) (t : Nat) : Option (List Cv) := (tb.info t).bind fun i => i.zero.map fun v => v.cells.toList.map (Cv.ofL true)
theorem zeroL_run (hT : TbOk P tb) {t : Nat} {zs : List Cv} (h : zeroL tb t = some zs) (w : World) : ∃ v, (zeroValue t).run P w = .ok v w ∧ (∀ e, v.cells = densA e zs) ∧ ∀ s, scs s zs := by
  obtain ⟨i, hi, h2⟩ := Option.bind_eq_some_iff.1 h
  obtain ⟨v, hv, rfl⟩ := Option.map_eq_some_iff.1 h2
  refine ⟨v, run_zero hT hi hv w, fun e => by rw [densA_ofL], fun s c hc => ?_⟩
  obtain ⟨x, _, rfl⟩ := List.mem_map.1 hc
  exact Cv.ofL_sc _ _ _
theorem run_newVar {t : TypeId} {v : Value} (w : World) : (newVar t v).run P w = .ok ⟨w.heap.size, 0, none⟩ (w.alloc (.cells v.cells t)) := rfl
theorem setPl_ad (e : Env) (id n off : Nat) : (e.setPl id (n, 0)).ad id off = ⟨n, off, none⟩ := by simp [Env.setPl, Env.ad]
def allocS (tb : Tb) (σ : St) (t : TypeId) : Tree OpE := match zeroL tb t with
  | some zs => newT σ (fun id => .one (.ptr id (.lit 0))) (.ar t false zs none)
  | none => .fail
theorem allocS_ok (hT : TbOk P tb) {t : TypeId} (ho : o.op = .alloc t) : TreeOk P σ o (allocS tb σ t) := by
  unfold allocS
  split
  · rename_i zs hz
    refine newT_ok (fun s e a w _ => ?_) (fun s hk => ⟨hk, trivial⟩)
    obtain ⟨v, h1, h2, h3⟩ := zeroL_run hT hz w
    refine ⟨densA e zs, fits_ar (h3 s), ?_⟩
    unfold execOp
    simp only [ho]
    refine runV ?_
    simp only [Instr.alloc, Sem.run_bind, h1, Result.andThen_ok, run_newVar, h2 e, Sv.den, Cv.den, Sn.den, setPl_ad]
    rfl
  · exact TreeOk.fail
def boxS (σ : St) (t : TypeId) (v : Sv) : Tree OpE := match v.cs with
  | some cs => newT σ (fun id => .one (.ptr id (.lit 0))) (.ar t false cs none)
  | none => .fail
theorem boxS_ok {t : TypeId} {x : Operand} {v : Sv} (ho : o.op = .box t x) (hx : evO σ x = some v) : TreeOk P σ o (boxS σ t v) := by
  unfold boxS
  split
  · rename_i cs hc
    obtain ⟨c1, c2, _⟩ := Sv.cs_ok hc
    refine newT_ok (fun s e a w hh => ?_) (fun s hk => ⟨hk, trivial⟩)
    obtain ⟨x1, x2⟩ := hh x (by rw [ho]; simp [Op.operands]) _ hx
    refine ⟨densA e cs, fits_ar (c2 s x2), ?_⟩
    unfold execOp
    simp only [ho]
    rw [x1]
    refine runV ?_
    have hb : (Instr.box t (v.den e)).run P w = .ok (.pointer (some ⟨w.heap.size, 0, none⟩)) (w.alloc (.cells (v.den e).cells t)) := rfl
    rw [hb, c1 e]
    show _ = Result.ok (Value.pointer (some ((e.setPl σ.nx (w.heap.size, 0)).ad σ.nx 0))) _
    rw [setPl_ad]
    rfl
  · exact TreeOk.fail

/-! aggregates -/
def spl : List Cv → Nat → List Cv → List Cv
  | l, _, [] => l
  | l, off, c :: cs => spl (lset l off c) (off + 1) cs
theorem spl_den (e : Env) : ∀ (cs l : List Cv) (off k : Nat), densA e (spl l (off + k) cs) = ((densA e cs).toList.zipIdx k).foldl (fun a (c, j) => a.setIfInBounds (off + j) c) (densA e l)
  | [], l, off, k => rfl
  | c :: cs, l, off, k => by
    have ih := spl_den e cs (lset l (off + k) c) off (k + 1)
    rw [show off + (k + 1) = off + k + 1 by omega] at ih
    simp only [spl]
    rw [ih]
    show _ = ((((c :: cs).map (·.den e)).toArray).toList.zipIdx k).foldl _ _
    simp only [List.map_cons, List.zipIdx_cons, List.foldl_cons]
    congr 1
    simp [densA, lset_eq, List.map_set]
theorem spl_length : ∀ (cs l : List Cv) (off : Nat), (spl l off cs).length = l.length
  | [], l, off => rfl
  | c :: cs, l, off => by simp only [spl]; rw [spl_length, lset_eq]; simp
theorem spl_sc {s : Sto} : ∀ {cs l : List Cv} {off : Nat}, scs s cs → scs s l → scs s (spl l off cs)
  | [], l, off, _, h => h
  | c :: cs, l, off, h1, h2 => by
    show scs s (spl (lset l off c) (off + 1) cs)
    refine spl_sc (fun x hx => h1 x (List.mem_cons_of_mem _ hx)) fun x hx => ?_
    rw [lset_eq] at hx
    rcases List.mem_or_eq_of_mem_set hx with hx | rfl
    · exact h2 x hx
    · exact h1 x List.mem_cons_self
def fillL (σ : St) (place : Nat → Option (Nat × Nat)) : List Cv → List (Nat × Operand) → Option (List Cv)
  | l, [] => some l
  | l, (i, x) :: rest => match place i, (evO σ x).bind Sv.cs with
    | some (off, size), some cs => match Nat.beq cs.length size && Nat.ble (off + cs.length) l.length with
      | true => fillL σ place (spl l off cs) rest
      | false => none
    | _, _ => none
theorem fillL_ok {place : Nat → Option (Nat × Nat)} {s : Sto} {e : Env} {a : Act} : ∀ {parts : List (Nat × Operand)} {l r : List Cv}, fillL σ place l parts = some r → (∀ p ∈ parts, Sees σ s e a p.2) → scs s l →
    Instr.fill place (densA e l) (parts.map fun p => (p.1, a.eval p.2)) = some (densA e r) ∧ scs s r ∧ r.length = l.length
  | [], l, r, h, _, hl => by obtain rfl := Option.some.inj h; exact ⟨rfl, hl, rfl⟩
  | (i, x) :: rest, l, r, h, hh, hl => by
    simp only [fillL] at h
    split at h
    · rename_i off size cs hp hc
      split at h
      · rename_i hb
        rw [Bool.and_eq_true, beq_iff', Nat.ble_eq] at hb
        obtain ⟨rfl, hb2⟩ := hb
        obtain ⟨v, hv, hc'⟩ := Option.bind_eq_some_iff.1 hc
        obtain ⟨c1, c2, _⟩ := Sv.cs_ok hc'
        obtain ⟨x1, x2⟩ := hh (i, x) List.mem_cons_self v hv
        obtain ⟨r1, r2, r3⟩ := fillL_ok h (fun p hp => hh p (List.mem_cons_of_mem _ hp)) (spl_sc (c2 s x2) hl)
        refine ⟨?_, r2, r3.trans (spl_length _ _ _)⟩
        simp only [List.map_cons, Instr.fill, hp]
        have hx1 : (a.eval x).cells = densA e cs := by rw [show a.eval x = v.den e from x1, c1 e]
        have hs1 : (densA e cs).size = cs.length := by simp [densA]
        have hs2 : (densA e l).size = l.length := by simp [densA]
        rw [hx1, hs1, hs2]
        have hd := spl_den e cs l off 0
        simp only [Nat.add_zero] at hd
        rw [hd] at r1
        rw [← Array.foldl_toList, Array.toList_zipIdx]
        have hcond : (decide (cs.length ≠ cs.length) || decide (off + cs.length > l.length)) = false := by simp; omega
        rw [if_neg (by rw [hcond]; decide)]
        exact r1
      · cases h
    · cases h
def placesL (tb : Tb) : List Field → Option (List (Nat × Nat))
  | [] => some []
  | f :: fs => match tb.info f.type, placesL tb fs with
    | some i, some ps => some ((f.offset, i.size) :: ps)
    | _, _ => none
theorem placesL_ok (hT : TbOk P tb) : ∀ {fs : List Field} {ps : List (Nat × Nat)}, placesL tb fs = some ps → fs.mapM (fun f => (P.info? f.type).map fun i => (f.offset, i.size)) = some ps
  | [], ps, h => by obtain rfl := Option.some.inj h; rfl
  | f :: fs, ps, h => by
    simp only [placesL] at h
    split at h
    · rename_i i ps' hi hps
      obtain rfl := Option.some.inj h
      simp only [List.mapM_cons, Option.bind_eq_bind, Option.pure_def, hT.info hi, Option.map_some, Option.bind_some, placesL_ok hT hps]
    · cases h
def builtL (tb : Tb) (σ : St) (t : TypeId) (parts : List (Nat × Operand)) : Option (List Cv) := match zeroL tb t, tb.und t with
  | some zs, some (.struct fs) => match placesL tb fs.toList with
    | some ps => fillL σ (fun i => ps[i]?) zs parts
    | none => none
  | some zs, some (.array _ el) => match tb.info el with
    | some ti => fillL σ (fun i => some (i * ti.size, ti.size)) zs parts
    | none => none
  | _, _ => none
theorem builtL_ok (hT : TbOk P tb) {t : TypeId} {parts : Array (Nat × Operand)} {r : List Cv} (h : builtL tb σ t parts.toList = some r) {s : Sto} {e : Env} {a : Act} (hh : ∀ p ∈ parts.toList, Sees σ s e a p.2) (w : World) :
    (Instr.build t (parts.map fun (i, x) => (i, a.eval x))).run P w = .ok (.agg (densA e r)) w ∧ scs s r := by
  have hm : (parts.map fun (i, x) => (i, a.eval x)).toList = parts.toList.map fun p => (p.1, a.eval p.2) := by simp
  unfold builtL at h
  split at h
  · rename_i zs fs hz hu
    split at h
    · rename_i ps hps
      obtain ⟨i, hi, h2⟩ := Option.bind_eq_some_iff.1 hz
      obtain ⟨v, hv, rfl⟩ := Option.map_eq_some_iff.1 h2
      have hzs : scs s (v.cells.toList.map (Cv.ofL true)) := fun c hc => by obtain ⟨x, _, rfl⟩ := List.mem_map.1 hc; exact Cv.ofL_sc _ _ _
      obtain ⟨f1, f2, _⟩ := fillL_ok h hh hzs
      rw [densA_ofL] at f1
      refine ⟨run_build w t _ _ ?_, f2⟩
      unfold Program.built
      rw [hT.info hi, hT.und hu]
      simp only [hv]
      rw [placesL_ok hT hps]
      simp only []
      rw [hm]
      simpa using f1
    · cases h
  · rename_i zs n el hz hu
    split at h
    · rename_i ti hti
      obtain ⟨i, hi, h2⟩ := Option.bind_eq_some_iff.1 hz
      obtain ⟨v, hv, rfl⟩ := Option.map_eq_some_iff.1 h2
      have hzs : scs s (v.cells.toList.map (Cv.ofL true)) := fun c hc => by obtain ⟨x, _, rfl⟩ := List.mem_map.1 hc; exact Cv.ofL_sc _ _ _
      obtain ⟨f1, f2, _⟩ := fillL_ok h hh hzs
      rw [densA_ofL] at f1
      refine ⟨run_build w t _ _ ?_, f2⟩
      unfold Program.built
      rw [hT.info hi, hT.und hu]
      simp only [hv, hT.info hti]
      rw [hm]
      simpa using f1
    · cases h
  · cases h
def buildS (tb : Tb) (σ : St) (t : TypeId) (parts : Array (Nat × Operand)) : Tree OpE := optT ((builtL tb σ t parts.toList).map fun r => valT (.agg r))
theorem buildS_ok (hT : TbOk P tb) {t : TypeId} {parts : Array (Nat × Operand)} (ho : o.op = .build t parts) : TreeOk P σ o (buildS tb σ t parts) := by
  refine TreeOk.opt fun u hu => ?_
  obtain ⟨r, hr, rfl⟩ := Option.map_eq_some_iff.1 hu
  refine TreeOk.val fun s e a w hh => ?_
  have hp : ∀ p ∈ parts.toList, Sees σ s e a p.2 := fun p hp => hh p.2 (by rw [ho]; simp only [Op.operands]; simpa using ⟨p.1, by simpa using hp⟩)
  obtain ⟨h1, h2⟩ := builtL_ok hT hr hp w
  refine ⟨?_, h2⟩
  unfold execOp
  simp only [ho]
  exact runV h1
/-- A new row of elements. -/
def rowL (tb : Tb) (σ : St) (el len : Nat) (parts : List (Nat × Operand)) : Option (List Cv) := match tb.info el with
  | some ti => match ti.zero with
    | some z => match Nat.ble (len * ti.size) 16777216 && Nat.blt 0 (len * ti.size) with
      | true => fillL σ (fun i => some (i * ti.size, ti.size)) ((List.range (len * ti.size)).map fun i => Cv.ofL true (z.cells[i % z.cells.size]!)) parts
      | false => none
    | none => none
  | none => none
def buildSliceS (tb : Tb) (σ : St) (t : TypeId) (len : Nat) (parts : Array (Nat × Operand)) : Tree OpE := match tb.und t with
  | some (.slice el) => match rowL tb σ el len parts.toList with
    | some cs => newT σ (fun id => .one (.slc id (.lit 0) (.lit len) (.lit len))) (.ar el false cs none)
    | none => .fail
  | _ => .fail
theorem fillL_fits {place : Nat → Option (Nat × Nat)} {s : Sto} {e : Env} {a : Act} {parts : List (Nat × Operand)} {l r : List Cv} (h : fillL σ place l parts = some r) (hh : ∀ p ∈ parts, Sees σ s e a p.2) (hl : scs s l) : scs s r := (fillL_ok h hh hl).2.1
theorem buildSliceS_ok (hT : TbOk P tb) {t : TypeId} {len : Nat} {parts : Array (Nat × Operand)} (ho : o.op = .buildSlice t len parts) : TreeOk P σ o (buildSliceS tb σ t len parts) := by
  unfold buildSliceS
  split
  · rename_i el hu
    split
    · rename_i cs hc
      unfold rowL at hc
      split at hc
      · rename_i ti hti
        split at hc
        · rename_i z hz
          split at hc
          · rename_i hb
            rw [Bool.and_eq_true, Nat.ble_eq, blt_iff] at hb
            refine newT_ok (fun s e a w hh => ?_) (fun s hk => ⟨hk, trivial, trivial, trivial⟩)
            have hp : ∀ p ∈ parts.toList, Sees σ s e a p.2 := fun p hp => hh p.2 (by rw [ho]; simp only [Op.operands]; simpa using ⟨p.1, by simpa using hp⟩)
            have hzs : scs s ((List.range (len * ti.size)).map fun i => Cv.ofL true (z.cells[i % z.cells.size]!)) := fun c hc => by obtain ⟨x, _, rfl⟩ := List.mem_map.1 hc; exact Cv.ofL_sc _ _ _
            obtain ⟨f1, f2, _⟩ := fillL_ok hc hp hzs
            refine ⟨densA e cs, fits_ar f2, ?_⟩
            have hzd : densA e ((List.range (len * ti.size)).map fun i => Cv.ofL true (z.cells[i % z.cells.size]!)) = (Array.range (len * ti.size)).map (z.cells[· % z.cells.size]!) := by
              unfold densA
              apply Array.ext'
              simp [List.map_map, Function.comp_def, Cv.ofL_den]
            rw [hzd] at f1
            unfold execOp
            simp only [ho]
            refine runV ?_
            have hm : (parts.map fun (i, x) => (i, a.eval x)).toList = parts.toList.map fun p => (p.1, a.eval p.2) := by simp
            simp only [Instr.buildSlice, Sem.run_bind, run_und hT hu, Result.andThen_ok, run_size hT hti]
            rw [if_neg (by omega), if_neg (by omega)]
            simp only [Sem.run_bind, run_zero hT hti hz, Result.andThen_ok, Sem.run_pure]
            rw [hm, f1]
            show (Result.ok _ _ : Result Value) = Result.ok (Value.slice (some ((e.setPl σ.nx (w.heap.size, 0)).ad σ.nx 0)) len len) _
            rw [setPl_ad]
            rfl
          · cases hc
        · cases hc
      · cases hc
    · exact TreeOk.fail
  · exact TreeOk.fail

def buildSliceE (tb : Tb) (σ : St) (t : TypeId) (len : Nat) (parts : Array (Nat × Operand)) : Tree OpE := match tb.und t, len, parts.toList with
  | some (.slice el), 0, [] => match tb.info el with
    | some _ => newT σ (fun id => .one (.slc id (.lit 0) (.lit 0) (.lit 0))) (.ar el false [] none)
    | none => .fail
  | _, _, _ => buildSliceS tb σ t len parts
theorem buildSliceE_ok (hT : TbOk P tb) {t : TypeId} {len : Nat} {parts : Array (Nat × Operand)} (ho : o.op = .buildSlice t len parts) : TreeOk P σ o (buildSliceE tb σ t len parts) := by
  unfold buildSliceE
  split
  · rename_i el hu hpl
    have hp0 : parts = #[] := Array.ext' (by simpa using hpl)
    subst hp0
    split
    · rename_i ti hti
      refine newT_ok (fun s e a w hh => ?_) (fun s hk => ⟨hk, trivial, trivial, trivial⟩)
      refine ⟨densA e [], fits_ar (fun c hc => by cases hc), ?_⟩
      unfold execOp
      simp only [ho]
      refine runV ?_
      simp only [Instr.buildSlice, Sem.run_bind, run_und hT hu, Result.andThen_ok, run_size hT hti, Nat.zero_mul]
      rw [if_neg (by decide), if_pos trivial]
      have hfl : Instr.fill (fun i => some (i * ti.size, ti.size)) (Array.map (fun x => (#[] : Array Value)[x % (#[] : Array Value).size]!) (Array.range 0)) (Array.map (fun (x : Nat × Operand) => (x.fst, a.eval x.snd)) #[]).toList = some #[] := by
        simp [Instr.fill]
      simp only [Sem.run_bind, Sem.run_pure, Result.andThen_ok]
      rw [hfl]
      show (Result.ok _ _ : Result Value) = Result.ok (Value.slice (some ((e.setPl σ.nx (w.heap.size, 0)).ad σ.nx 0)) 0 0) _
      rw [setPl_ad]
      rfl
    · exact TreeOk.fail
  · exact buildSliceS_ok hT ho
/-! load -/
/-- What a cell of a type holds: a number of a kind, or a truth value. -/
inductive Lf where
  | b
  | i (k : IntKind)
def lvFs (tb : Tb) (f : TypeId → Option (List Lf)) : List Field → Nat → Option (List Lf)
  | [], _ => some []
  | fd :: fs, off => match f fd.type, tb.info fd.type with
    | some l, some i => match Nat.beq fd.offset off && Nat.beq l.length i.size with
      | true => (lvFs tb f fs (off + i.size)).map fun r => l ++ r
      | false => none
    | _, _ => none
def lvRep (l : List Lf) : Nat → List Lf
  | 0 => []
  | n + 1 => l ++ lvRep l n
def chkLen (tb : Tb) (t : TypeId) (o : Option (List Lf)) : Option (List Lf) := match o, tb.info t with
  | some l, some i => match Nat.beq l.length i.size with
    | true => some l
    | false => none
  | _, _ => none
def leaves (tb : Tb) : Nat → TypeId → Option (List Lf)
  | 0, _ => none
  | d + 1, t => match tb.und t with
    | some .bool => some [.b]
    | some (.int k) => some [.i k]
    | some (.struct fs) => chkLen tb t (lvFs tb (leaves tb d) fs.toList 0)
    | some (.array n e) => match leaves tb d e, tb.info e with
      | some l, some i => match Nat.beq l.length i.size with
        | true => chkLen tb t (some (lvRep l n))
        | false => none
      | _, _ => none
    | _ => none
def vbOf : Value → Bool
  | .bool b => b
  | _ => false
def viOf : Value → Int
  | .int _ n => n
  | _ => 0
def Lf.of : Lf → Value → Cv
  | .b, v => .b (vbOf v) false
  | .i k, v => .i k (viOf v) false
def Lf.isV : Lf → Value → Bool
  | .b, .bool _ => true
  | .i k, .int k' _ => decide (k = k')
  | _, _ => false
theorem Lf.of_den {l : Lf} {v : Value} (h : l.isV v = true) (e : Env) : (l.of v).den e = v := by
  cases l with
  | b => cases v <;> first | rfl | cases h
  | i k => cases v with
    | int k' n =>
      obtain rfl : k = k' := by simpa [Lf.isV] using h
      rfl
    | _ => cases h
theorem Lf.of_sc (l : Lf) (v : Value) (s : Sto) : (l.of v).sc s := by cases l <;> trivial
/-- Out of a block that is not written out: by the types of its cells. -/
def oqOne (tb : Tb) (t : TypeId) (id k n : Nat) (f : Nat → Value) : Tree OpE := .must (decide (k < n)) (match leaves tb 20 t with
  | some [l] => .must (l.isV (f k)) (.leaf ⟨some (.one (l.of (f k))), [.k id], []⟩)
  | _ => .leaf ⟨some (.one (Cv.ofL false (f k))), [.k id], []⟩)
def lfAt (ls : List Lf) (j : Nat) : Lf := (ls[j]?).getD .b
def oqAgg (tb : Tb) (t : TypeId) (id k n m : Nat) (f : Nat → Value) : Tree OpE := .must (decide (k + m ≤ n)) (match leaves tb 20 t with
  | some ls => .must ((List.range m).all fun j => (lfAt ls j).isV (f (k + j))) (.leaf ⟨some (.agg ((List.range m).map fun j => (lfAt ls j).of (f (k + j)))), [.k id], []⟩)
  | none => .leaf ⟨some (.agg ((List.range m).map fun j => Cv.ofL false (f (k + j)))), [.k id], []⟩)
def cellLocs (id : Nat) : Nat → Nat → List Loc
  | _, 0 => []
  | off, n + 1 => .c id off :: cellLocs id (off + 1) n
theorem mem_cellLocs {id : Nat} : ∀ {n off j : Nat}, off ≤ j → j < off + n → Loc.c id j ∈ cellLocs id off n
  | 0, off, j, h1, h2 => by omega
  | n + 1, off, j, h1, h2 => by
    by_cases e : j = off
    · subst e; exact List.mem_cons_self
    · exact List.mem_cons_of_mem _ (mem_cellLocs (by omega) (by omega))
def loadS (tb : Tb) (σ : St) (t : TypeId) (v : Sv) : Tree OpE := match v with
  | .one (.ptr id off) => match alook σ.bk id with
    | some (.ar _ _ cs _) => match off, tb.agg t, tb.info t with
      | .lit k, some false, _ => match cs[k]? with
        | some c => .leaf ⟨some (.one c), [.c id k], []⟩
        | none => .fail
      | .lit k, some true, some i => match Nat.ble (k + i.size) cs.length with
        | true => .leaf ⟨some (.agg ((cs.drop k).take i.size)), cellLocs id k i.size, []⟩
        | false => .fail
      | _, _, _ => .fail
    | some (.oq _ _ n f _) => match off, tb.agg t, tb.info t with
      | .nam _, _, _ => .fail
      | .lit k, some false, _ => oqOne tb t id k n f
      | .opq k, some false, _ => oqOne tb t id k n f
      | .lit k, some true, some i => oqAgg tb t id k n i.size f
      | .opq k, some true, some i => oqAgg tb t id k n i.size f
      | _, _, _ => .fail
    | _ => .fail
  | _ => .fail
theorem loadS_ok (hT : TbOk P tb) {t : TypeId} {x : Operand} {v : Sv} (ho : o.op = .load t x) (hx : evO σ x = some v) : TreeOk P σ o (loadS tb σ t v) := by
  have one : ∀ {id k : Nat} {off : Sn} {c : Cv} {rl : List Loc}, v = .one (.ptr id off) → (∀ e, off.den e = k) → tb.agg t = some false →
      (∀ (C : Ctx) (e : Env) (s : Sto) (w : World), Hp C e s w → (∀ l ∈ rl, s l = look σ l) → w.cell? (e.ad id k) = some (c.den e) ∧ c.sc s) → TreeOk P σ o (.leaf ⟨some (.one c), rl, []⟩) := by
    intro id k off c rl hv hk ha h
    subst hv
    refine TreeOk.leaf (OpOk.pure fun C e s a w hp hh hl => ?_)
    obtain ⟨x1, _⟩ := hh x (by rw [ho]; simp [Op.operands]) _ hx
    obtain ⟨h1, h2⟩ := h C e s w hp hl
    refine ⟨?_, h2⟩
    unfold execOp
    simp only [ho]
    rw [x1]
    refine runV ?_
    simp only [Instr.loadAt, Sv.den, Cv.den, Instr.sureAddr, Sem.run_bind, Sem.run_pure, Result.andThen_ok, loadVar, run_agg hT ha, Bool.false_eq_true, if_false, run_load, hk e, h1]
  have many : ∀ {id k : Nat} {off : Sn} {i : TypeInfo} {f : Nat → Cv} {cs : List Cv} {rl : List Loc}, v = .one (.ptr id off) → (∀ e, off.den e = k) → tb.agg t = some true → tb.info t = some i → (cs = (List.range i.size).map f) →
      (∀ (C : Ctx) (e : Env) (s : Sto) (w : World), Hp C e s w → (∀ l ∈ rl, s l = look σ l) → ∀ j, j < i.size → w.cell? (e.ad id (k + j)) = some ((f j).den e) ∧ (f j).sc s) → TreeOk P σ o (.leaf ⟨some (.agg cs), rl, []⟩) := by
    intro id k off i f cs rl hv hk ha hi hcs h
    subst hv hcs
    refine TreeOk.leaf (OpOk.pure fun C e s a w hp hh hl => ?_)
    obtain ⟨x1, _⟩ := hh x (by rw [ho]; simp [Op.operands]) _ hx
    have h' := h C e s w hp hl
    refine ⟨?_, fun c hc => ?_⟩
    · unfold execOp
      simp only [ho]
      rw [x1]
      refine runV ?_
      have hr := run_loadCells (P := P) w (e.ad id k) i.size (fun j => (f j).den e) (fun j hj => by rw [ad_add]; exact (h' j hj).1)
      simp only [Instr.loadAt, den_ptr, den_agg, Instr.sureAddr, Sem.run_bind, Sem.run_pure, Result.andThen_ok, loadVar, run_agg hT ha, if_true, run_size hT hi, hk e, hr]
      unfold densA
      rw [List.map_map]
      rfl
    · obtain ⟨j, hj, rfl⟩ := List.mem_map.1 hc
      exact (h' j (List.mem_range.1 hj)).2
  unfold loadS
  split
  · rename_i id off
    split
    · rename_i t' ro cs cp hb
      have hcell : ∀ (C : Ctx) (e : Env) (s : Sto) (w : World), Hp C e s w → ∀ k c, s (.c id k) = look σ (.c id k) → cs[k]? = some c → w.cell? (e.ad id k) = some (c.den e) ∧ c.sc s := by
        intro C e s w hp k c hl hc
        have h1 : s (.c id k) = some (.cv c) := by
          rw [hl]; simp only [look, hb, Option.bind_some, Blk.cell, hc, Option.map_some]
        obtain ⟨h2, _, h3⟩ := hp.cl id k c h1
        exact ⟨h3, h2⟩
      split
      · rename_i k ha
        split
        · rename_i c hc
          exact one rfl (fun _ => rfl) ha fun C e s w hp hl => hcell C e s w hp k c (hl _ (by simp)) hc
        · exact TreeOk.fail
      · rename_i k i ha hi
        split
        · rename_i hle
          rw [Nat.ble_eq] at hle
          refine many (f := fun j => cs.getD (k + j) (.val undef)) rfl (fun _ => rfl) ha hi ?_ fun C e s w hp hl j hj => ?_
          · apply List.ext_getElem?
            intro j
            by_cases hj : j < i.size
            · rw [List.getElem?_take_of_lt hj, List.getElem?_drop, List.getElem?_map, List.getElem?_range hj]
              have : k + j < cs.length := by omega
              simp [this]
            · rw [List.getElem?_eq_none (by simp; omega), List.getElem?_eq_none (by simp; omega)]
          · have hlt : k + j < cs.length := by omega
            refine hcell C e s w hp (k + j) _ (hl _ (mem_cellLocs (by omega) (by omega))) ?_
            simp [hlt]
        · exact TreeOk.fail
      · exact TreeOk.fail
    · rename_i t' ro n f cp hb
      have hcell : ∀ (C : Ctx) (e : Env) (s : Sto) (w : World), Hp C e s w → s (.k id) = look σ (.k id) → ∀ k, k < n → w.cell? (e.ad id k) = some ((Cv.ofL false (f k)).den e) ∧ (Cv.ofL false (f k)).sc s := by
        intro C e s w hp hl k hk
        have h1 : s (.k id) = some (.bk (.oq t' ro n f cp)) := by rw [hl]; simp only [look, hb]; rfl
        obtain ⟨h3, _⟩ := hp.oq id t' ro n f cp h1 k hk
        exact ⟨by rw [Cv.ofL_den]; exact h3, Cv.ofL_sc _ _ _⟩
      have fone : ∀ {k : Nat}, (∀ e, off.den e = k) → tb.agg t = some false → TreeOk P σ o (oqOne tb t id k n f) := by
        intro k hk ha
        refine TreeOk.must fun hm => ?_
        have hm' : k < n := by simpa using hm
        split
        · rename_i l hls
          refine TreeOk.must fun hv2 => ?_
          refine one rfl hk ha fun C e s w hp hl => ⟨?_, Lf.of_sc _ _ _⟩
          rw [Lf.of_den hv2, (hcell C e s w hp (hl _ (by simp)) k hm').1, Cv.ofL_den]
        · exact one rfl hk ha fun C e s w hp hl => hcell C e s w hp (hl _ (by simp)) k hm'
      have fagg : ∀ {k : Nat} {i : TypeInfo}, (∀ e, off.den e = k) → tb.agg t = some true → tb.info t = some i → TreeOk P σ o (oqAgg tb t id k n i.size f) := by
        intro k i hk ha hi
        refine TreeOk.must fun hm => ?_
        have hm' : k + i.size ≤ n := by simpa using hm
        split
        · rename_i ls hls
          refine TreeOk.must fun hv2 => ?_
          refine many (f := fun j => (lfAt ls j).of (f (k + j))) rfl hk ha hi rfl fun C e s w hp hl j hj => ⟨?_, Lf.of_sc _ _ _⟩
          have hj2 := List.all_eq_true.1 hv2 j (List.mem_range.2 hj)
          rw [Lf.of_den hj2, (hcell C e s w hp (hl _ (by simp)) (k + j) (by omega)).1, Cv.ofL_den]
        · exact many rfl hk ha hi rfl fun C e s w hp hl j hj => hcell C e s w hp (hl _ (by simp)) (k + j) (by omega)
      split
      · exact TreeOk.fail
      · rename_i k ha
        exact fone (fun _ => rfl) ha
      · rename_i k ha
        exact fone (fun _ => rfl) ha
      · rename_i k i ha hi
        exact fagg (fun _ => rfl) ha hi
      · rename_i k i ha hi
        exact fagg (fun _ => rfl) ha hi
      · exact TreeOk.fail
    · exact TreeOk.fail
  · exact TreeOk.fail

/-! store -/
def cellWrs (id : Nat) : Nat → List Cv → List Wr
  | _, [] => []
  | off, c :: cs => .cell id off c :: cellWrs id (off + 1) cs
theorem storeCells_run {C : Ctx} {e : Env} {id : Nat} {t : TypeId} {n : Nat} {cp : Option (Nat × Nat)} (off : Nat) : ∀ (cs : List Cv) (i : Nat) (s : Sto) (w : World), Hp C e s w → s (.k id) = some (.bk (.ar t false n cp)) → off + i + cs.length ≤ n → scs s cs → (∀ c ∈ cs, c.plainB = true) →
    ∃ w', (storeCells (e.ad id off) (cs.map (·.den e)) i).run P w = .ok () w' ∧ Hp C e (upds s (cellWrs id (off + i) cs)) w'
  | [], i, s, w, hp, _, _, _, _ => ⟨w, rfl, hp⟩
  | c :: cs, i, s, w, hp, hk, hn, hs, hc => by
    simp only [List.length_cons] at hn
    obtain ⟨f1, f2⟩ := hp.ar id t n cp hk (off + i) (by omega)
    obtain ⟨u, hu⟩ := Option.isSome_iff_exists.1 f2
    have hp' := hp.store hk (show off + i < n by omega) (hs c List.mem_cons_self)
    obtain ⟨w', h1, h2⟩ := storeCells_run off cs (i + 1) _ _ hp' (by rw [cell_k]; exact hk) (by omega) (scs.sub Sub.cell fun x hx => hs x (List.mem_cons_of_mem _ hx)) (fun x hx => hc x (List.mem_cons_of_mem _ hx))
    refine ⟨w', ?_, h2⟩
    simp only [List.map_cons, storeCells, Sem.run_bind]
    rw [ad_add, run_store P w _ _ _ (Cv.plain_cell (hc c List.mem_cons_self) e).1, hu]
    simp only [f1, Bool.false_eq_true, if_false, Result.andThen_ok]
    exact h1
def Cv.pv : Cv → Option Value
  | .b x _ => some (.bool x)
  | .i k n _ => some (.int k n)
  | .s x _ => some (.string x)
  | .val x => some x
  | _ => none
theorem Cv.pv_den {c : Cv} {v : Value} (h : c.pv = some v) (e : Env) : c.den e = v := by
  cases c <;> first | cases h; done | (obtain rfl := Option.some.inj h; rfl)
def pvs : List Cv → Option (List Value)
  | [] => some []
  | c :: cs => match c.pv, pvs cs with
    | some v, some vs => some (v :: vs)
    | _, _ => none
theorem pvs_den : ∀ {cs : List Cv} {vs : List Value}, pvs cs = some vs → (∀ e, cs.map (Cv.den e) = vs) ∧ vs.length = cs.length
  | [], vs, h => by obtain rfl := Option.some.inj h; exact ⟨fun _ => rfl, rfl⟩
  | c :: cs, vs, h => by
    simp only [pvs] at h
    split at h
    · rename_i v vs' hv hvs
      obtain rfl := Option.some.inj h
      obtain ⟨r1, r2⟩ := pvs_den hvs
      exact ⟨fun e => by rw [List.map_cons, Cv.pv_den hv e, r1 e], by simp [r2]⟩
    · cases h
def oqWrs (id : Nat) (t : TypeId) (n : Nat) (cp : Option (Nat × Nat)) : (Nat → Value) → Nat → List Value → List Wr
  | _, _, [] => []
  | f, off, c :: cs => .new id (.oq t false n (fun j => if j = off then c else f j) cp) :: oqWrs id t n cp (fun j => if j = off then c else f j) (off + 1) cs
theorem storeCellsQ_run {C : Ctx} {e : Env} {id : Nat} {t : TypeId} {n : Nat} {cp : Option (Nat × Nat)} (off : Nat) : ∀ (cs : List Value) (i : Nat) (f : Nat → Value) (s : Sto) (w : World), Hp C e s w → s (.k id) = some (.bk (.oq t false n f cp)) → off + i + cs.length ≤ n → (∀ c ∈ cs, c.oneCell' = true) →
    ∃ w', (storeCells (e.ad id off) cs i).run P w = .ok () w' ∧ Hp C e (upds s (oqWrs id t n cp f (off + i) cs)) w'
  | [], i, f, s, w, hp, _, _, _ => ⟨w, rfl, hp⟩
  | c :: cs, i, f, s, w, hp, hk, hn, hc => by
    simp only [List.length_cons] at hn
    obtain ⟨f2, f1⟩ := hp.oq id t false n f cp hk (off + i) (by omega)
    have hp' := hp.storeQ (v := c) hk (show off + i < n by omega)
    obtain ⟨w', h1, h2⟩ := storeCellsQ_run off cs (i + 1) _ _ _ hp' (by rw [new_k, if_pos rfl]; rfl) (by omega) (fun x hx => hc x (List.mem_cons_of_mem _ hx))
    refine ⟨w', ?_, h2⟩
    simp only [storeCells, Sem.run_bind]
    rw [ad_add, run_store P w _ _ _ (hc c List.mem_cons_self), f2]
    simp only [f1 rfl, Bool.false_eq_true, if_false, Result.andThen_ok]
    exact h1
def storeS (tb : Tb) (σ : St) (t : TypeId) (va vx : Sv) : Tree OpE := match va, vx.cs, tb.info t with
  | .one (.ptr id off), some cs, some ti => match Nat.beq cs.length ti.size with
    | true => match alook σ.bk id, off with
      | some (.ar _ false l _), .lit k => match Nat.ble (k + cs.length) l.length with
        | true => .leaf ⟨none, [.k id], cellWrs id k cs⟩
        | false => .fail
      | some (.oq t' false n f cp), .lit k => match pvs cs with
        | some vs => .must (decide (k + cs.length ≤ n)) (.leaf ⟨none, [.k id], oqWrs id t' n cp f k vs⟩)
        | none => .fail
      | some (.oq t' false n f cp), .opq k => match pvs cs with
        | some vs => .must (decide (k + cs.length ≤ n)) (.leaf ⟨none, [.k id], oqWrs id t' n cp f k vs⟩)
        | none => .fail
      | _, _ => .fail
    | false => .fail
  | _, _, _ => .fail
theorem storeS_ok (hT : TbOk P tb) {t : TypeId} {x y : Operand} {va vx : Sv} (ho : o.op = .store t x y) (hx : evO σ x = some va) (hy : evO σ y = some vx) : TreeOk P σ o (storeS tb σ t va vx) := by
  unfold storeS
  split
  · rename_i id off cs ti hc hti
    obtain ⟨c1, c2, c3⟩ := Sv.cs_ok hc
    split
    · rename_i hlen
      have hlen' := beq_iff'.1 hlen
      have go : ∀ {k : Nat} {ws : List Wr}, (∀ e, off.den e = k) → (∀ (C : Ctx) (e : Env) (s : Sto) (w : World), Hp C e s w → (∀ l ∈ [Loc.k id], s l = look σ l) → scs s cs → ∃ w', (storeCells (e.ad id k) (cs.map (·.den e)) 0).run P w = .ok () w' ∧ Hp C e (upds s ws) w') → TreeOk P σ o (.leaf ⟨none, [.k id], ws⟩) := by
        intro k ws hk h
        refine TreeOk.leaf fun C e s a w hp hh hl => ?_
        obtain ⟨x1, _⟩ := hh x (by rw [ho]; simp [Op.operands]) _ hx
        obtain ⟨y1, y2⟩ := hh y (by rw [ho]; simp [Op.operands]) _ hy
        obtain ⟨w', h1, h2⟩ := h C e s w hp hl (c2 s y2)
        refine ⟨.skip, e, w', ?_, Agree.refl _ _, h2, rfl⟩
        unfold execOp
        simp only [ho]
        rw [x1, y1]
        refine runU ?_
        have hsz : ¬ ((vx.den e).cells.size ≠ ti.size) := by rw [c1 e]; simp [densA, hlen']
        simp only [Instr.storeAt, den_ptr, Instr.sureAddr, Sem.run_bind, Sem.run_pure, Result.andThen_ok, storeVar, run_size hT hti]
        rw [if_neg hsz, c1 e, hk e]
        exact h1
      split
      · rename_i t' l cp k hb
        split
        · rename_i hle
          rw [Nat.ble_eq] at hle
          refine go (fun _ => rfl) fun C e s w hp hl hs => ?_
          have h1 : s (.k id) = some (.bk (.ar t' false l.length cp)) := by rw [hl _ (by simp)]; simp only [look, hb]; rfl
          have := storeCells_run (P := P) k cs 0 s w hp h1 (by omega) hs c3
          simpa using this
        · exact TreeOk.fail
      · rename_i t' n f cp k hb
        split
        · rename_i vs hvs
          obtain ⟨d1, d2⟩ := pvs_den hvs
          refine TreeOk.must fun hm => ?_
          have hm' : k + cs.length ≤ n := by simpa using hm
          refine go (fun _ => rfl) fun C e s w hp hl hs => ?_
          have h1 : s (.k id) = some (.bk (.oq t' false n f cp)) := by rw [hl _ (by simp)]; simp only [look, hb]; rfl
          have hone : ∀ v ∈ vs, v.oneCell' = true := fun v hv => by
            rw [← d1 e] at hv
            obtain ⟨c, hc', rfl⟩ := List.mem_map.1 hv
            exact (Cv.plain_cell (c3 c hc') e).1
          have := storeCellsQ_run (P := P) k vs 0 f s w hp h1 (by omega) hone
          rw [d1 e]
          simpa using this
        · exact TreeOk.fail
      · rename_i t' n f cp k hb
        split
        · rename_i vs hvs
          obtain ⟨d1, d2⟩ := pvs_den hvs
          refine TreeOk.must fun hm => ?_
          have hm' : k + cs.length ≤ n := by simpa using hm
          refine go (fun _ => rfl) fun C e s w hp hl hs => ?_
          have h1 : s (.k id) = some (.bk (.oq t' false n f cp)) := by rw [hl _ (by simp)]; simp only [look, hb]; rfl
          have hone : ∀ v ∈ vs, v.oneCell' = true := fun v hv => by
            rw [← d1 e] at hv
            obtain ⟨c, hc', rfl⟩ := List.mem_map.1 hv
            exact (Cv.plain_cell (c3 c hc') e).1
          have := storeCellsQ_run (P := P) k vs 0 f s w hp h1 (by omega) hone
          rw [d1 e]
          simpa using this
        · exact TreeOk.fail
      · exact TreeOk.fail
    · exact TreeOk.fail
  · exact TreeOk.fail
end
end Sx
end Go.Proofs.YtpdhkgfdmpofiaaGreatDoor
